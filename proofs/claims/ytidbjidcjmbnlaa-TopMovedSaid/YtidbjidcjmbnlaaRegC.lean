/-
  What is left of a region behind its quiet operations: one or two new variables that are laid and filled, in whatever order.
  What is left of a region behind its quiet operations: one element is appended to a row of the call's own.
  Single steps of a region: an operation that lays one new block, a call.
  Regions that draw their order, over any program: each operation is met by itself. A HARD operation (a call that makes memory or needs memory that the region has made, an alloc, a store, an append) has a fact that holds from then on, and the memory that the fact is about; all others are QUIET: one value, read off in one walk. Whatever order is drawn, all facts hold at the end.
  Regions that draw their order: whatever order is drawn, all facts hold at the end.
  Regions that draw their order: the law as it is used. The quiet operations are met in one or two walks in the text's order, the hard ones one by one.
  Regions that draw their order: a store of one number into a block that is known whole, among what is left.
  Regions that draw their order: what each kind of hard operation owes.
  Regions that draw their order, in which calls may turn old memory, each its own.
  Regions that draw their order, once more: which operations may turn old memory is said by a set; each of these must wait for every quiet operation that is taken ahead.
  A region that draws its order, in which one call may turn old memory: it waits for all that come ahead, and all others wait for it.
-/
import Derived.Test.YtidbjidcjmbnlaaRegion
import Derived.Test.YtidbjidcjmbnlaaTmCount
import Derived.WalkKit
set_option linter.unusedSimpArgs false
set_option linter.unusedVariables false
section
namespace Go.Proofs.Ytidbjidcjmbnlaa
open Go Go.RowKit

section
variable {P : Program} {md : Region.Mode} {ops : Array Oper} {S : Nat → Prop} {E : Nat → Bool}

theorem exec_alloc {o : Oper} {t : TypeId} {z : Value} (h : o.op = .alloc t) (hz : (P.info? t).map (·.zero) = some (some z)) (e : Operand → Value) (w : World) :
    (execOp e o).run P w = .ok (.value (.pointer (some ⟨w.heap.size, 0, none⟩))) (w.alloc (.cells z.cells t)) := by
  cases hi : P.info? t with
  | none => simp [hi] at hz
  | some i =>
    have hz' : i.zero = some z := by simpa [hi] using hz
    simp [execOp, h, hi, hz', go_sem, typeInfo, zeroValue]

theorem exec_store {o : Oper} {t t' : TypeId} {p x : Operand} {g : Nat} {old cells : Array Value} (h : o.op = .store t p x) {e : Operand → Value} {w : World} (hp : e p = .pointer (some ⟨g, 0, none⟩)) (hx : e x = .agg cells)
    (hg : Blk w g t' old) (hi : (P.info? t).map (·.size) = some cells.size) (ho : old.size = cells.size) (h1 : cells.all (·.oneCell') = true) :
    (execOp e o).run P w = .ok .skip (w.setRow g cells) := by
  have := run_storeCells_from (P := P) g t' cells.toList 0 old w hg (by simp; omega) (fun v hv => (Array.all_eq_true_iff_forall_mem.1 h1) v (by simpa using hv))
  simp at this
  cases hq : P.info? t with
  | none => simp [hq] at hi
  | some i =>
    have hs : i.size = cells.size := by simpa [hq] using hi
    simp [execOp, h, hp, hx, go_sem, sizeOf, typeInfo, hq, hs, this]

theorem blk_setRow {w : World} {g : Nat} {t : TypeId} {old cs : Array Value} (h : Blk w g t old) : Blk (w.setRow g cs) g t cs := by
  unfold Blk at *
  simp [World.setRow, Array.getElem?_modify, h]
theorem blk_later {w w' : World} {g : Nat} {t : TypeId} {cs : Array Value} (h : Blk w g t cs) (hl : Later w w') : Blk w' g t cs := h.below hl h.lt
def isAlloc (o : Option Oper) (t : TypeId) (p : Tmp) : Bool := match o with
  | some ⟨some d, .alloc t', _, _, _, none⟩ => d == p && t' == t
  | _ => false
def isStore (o : Option Oper) (t : TypeId) (p x : Tmp) : Bool := match o with
  | some ⟨none, .store t' (.tmp p') (.tmp x'), _, _, _, none⟩ => p' == p && t' == t && x' == x
  | _ => false

theorem below_later' {B : Nat} {a b c : World} (h : Below B a b) (k : Later b c) (hB : B ≤ a.heap.size) : Below B a c := h.trans (Below.mono k (Nat.le_trans hB h.size))

theorem liftB {D : World → Prop} {B : Nat} {w : World} (hD : Good (fun k => k < B) w D) {b o : Nat} {v : Value} (h : w.cell? ⟨b, o, none⟩ = some v) (hb : b < B) (x : Of D) : x.val.cell? ⟨b, o, none⟩ = some v := lift hD h hb x
theorem Blk.c {w : World} {g : Nat} {t : TypeId} {cs : Array Value} (h : Blk w g t cs) (i : Nat) {v : Value} (hi : cs[i]? = some v) : w.cell? ⟨g, i, none⟩ = some v := (h.cell i).trans hi
end
theorem onward {a b c : World} (h : Below a.heap.size a b) (k : Below b.heap.size b c) : Below a.heap.size a c := below_later' h k (Nat.le_refl _)
theorem blk_new_at {w : World} {t : TypeId} {cs : Array Value} {g : Nat} (h : g = w.heap.size) : Blk (w.alloc (.cells cs t)) g t cs := by subst h; exact Blk.new _ _ _
theorem Blk.c2 {w : World} {g : Nat} {t : TypeId} {u v : Value} (h : Blk w g t #[u, v]) : w.cell? ⟨g, 0, none⟩ = some u ∧ w.cell? ⟨g, 1, none⟩ = some v := ⟨h.c 0 rfl, h.c 1 rfl⟩
theorem Blk.c3 {w : World} {g : Nat} {t : TypeId} {u v x : Value} (h : Blk w g t #[u, v, x]) : w.cell? ⟨g, 0, none⟩ = some u ∧ w.cell? ⟨g, 1, none⟩ = some v ∧ w.cell? ⟨g, 2, none⟩ = some x := ⟨h.c 0 rfl, h.c 1 rfl, h.c 2 rfl⟩
theorem Blk.c4 {w : World} {g : Nat} {t : TypeId} {u v x y : Value} (h : Blk w g t #[u, v, x, y]) : w.cell? ⟨g, 0, none⟩ = some u ∧ w.cell? ⟨g, 1, none⟩ = some v ∧ w.cell? ⟨g, 2, none⟩ = some x ∧ w.cell? ⟨g, 3, none⟩ = some y := ⟨h.c 0 rfl, h.c 1 rfl, h.c 2 rfl, h.c 3 rfl⟩
end Go.Proofs.Ytidbjidcjmbnlaa
end
section
namespace Go.Proofs.Ytidbjidcjmbnlaa
open Go Go.RowKit

theorem kb {D : World → Prop} {B : Nat} {w : World} (hD : Good (fun k => k < B) w D) (x : Of D) : Below B w x.val := by
  have h := hD.low _ x.ok
  exact ⟨h.os, h.tape, h.output, h.size, h.block⟩
section
variable {P : Program} {md : Region.Mode} {ops : Array Oper} {S : Nat → Prop} {E : Nat → Bool}

end
theorem own_grown {w w' : World} {base : Nat} {e : TypeId} {size n : Nat} {v : Value} {xs : List Value} {row : Option Nat} (h : w.ownsRow base e size v n xs) (hg : w.grownBy w' row) (hne : v.ownBlock ≠ row) : w'.ownsRow base e size v n xs := h.kept hg (.inr hne)
end Go.Proofs.Ytidbjidcjmbnlaa
end
section
namespace Go.Proofs.Ytidbjidcjmbnlaa
open Go Go.RowKit
/-- The world at a call, under a name. -/
theorem at_world {P : Program} {f : FuncId} {args : Array Value} {w : World} {R : Ending → World → Prop} (h : ∀ W, W = w → Calls P f args W R) : Calls P f args w R := h w rfl
theorem code_world {P : Program} {c : Code} {Q : Exit → Act → World → Prop} {a : Act} {w : World} (h : ∀ W, W = w → c.wp P Q a W) : c.wp P Q a w := h w rfl
section
variable {P : Program} {md : Region.Mode} {ops : Array Oper} {S : Nat → Prop} {E : Nat → Bool}

end
end Go.Proofs.Ytidbjidcjmbnlaa
end
section
namespace Go.Proofs.Ytidbjidcjmbnlaa
open Go Go.RowKit

/-- What a hard operation is free to choose: addresses and capacities. -/
abbrev Par := Nat → Option Addr × Nat
/-- The static side of a hard operation: its number, the hard operation whose memory it takes over, those whose facts it is given, those on whose choices its own fact may depend. -/
structure St where
  i : Nat
  tgt : Option Nat
  need : List Nat
  dep : List Nat

def upd (x : Nat → Par) (i : Nat) (y : Par) : Nat → Par := fun j => if j = i then y else x j
theorem upd_same (x : Nat → Par) (i : Nat) (y : Par) : upd x i y i = y := by simp [upd]
theorem upd_ne (x : Nat → Par) {i j : Nat} (y : Par) (h : j ≠ i) : upd x i y j = x j := by simp [upd, h]

def bEdges (md : Region.Mode) (o : Oper) : List Nat := (o.after.toList.filter (Region.binds md ·)).map (·.on)
/-- A table of operations that have come up before each one: each by an edge, or by one of an edge's own. -/
def ancOK (md : Region.Mode) (lops : List Oper) (an : List (List Nat)) : Bool :=
  (List.range an.length).all fun i => (an.getD i []).all fun j => match lops[i]? with
    | some o => (bEdges md o).any fun e => e == j || (decide (e < i) && (an.getD e []).contains j)
    | none => false
def slotOf (a : Act) (o : Oper) : Value := match o.dst with | some d => a.tmps.getD d undef | none => undef
def regB (md : Region.Mode) (lops : List Oper) (an : List (List Nat)) (m1 m2 : List Bool) (st : List St) : Bool :=
  let hl := st.map (·.i)
  let ops := lops.toArray
  let rg := List.range lops.length
  ancOK md lops an && Region.noSelect ops && dstB lops &&
  (rg.all fun i => match lops[i]? with
    | some o => (bEdges md o).all (fun j => decide (j < i)) && (rg.all fun j => match (lops[j]?).bind (·.dst) with
        | some d => !(o.looksAt ops).contains d || ((bEdges md o).contains j && !(m1.getD i false && m2.getD j false))
        | none => true)
    | none => false) &&
  (rg.all fun i => (if m1.getD i false then !m2.getD i false && !hl.contains i else if m2.getD i false then !hl.contains i else hl.contains i)) &&
  (decide (m1.length = lops.length) && decide (m2.length = lops.length)) &&
  (st.all fun s => decide (s.i < lops.length) && (s.need.all fun j => (an.getD s.i []).contains j && hl.contains j && decide (j ≠ s.i) && st.all fun s' => (match s'.tgt with | some t => t != j | none => true) || s'.i == s.i) &&
    (s.dep.all fun j => (an.getD s.i []).contains j && hl.contains j) && (match s.tgt with | some t => s.need.contains t | none => true))

section anc
variable {md : Region.Mode} {lops : List Oper} {an : List (List Nat)}
theorem anc_spec (h : ancOK md lops an = true) (i j : Nat) (hj : j ∈ an.getD i []) : ∃ o, lops[i]? = some o ∧ ∃ e ∈ bEdges md o, e = j ∨ (e < i ∧ j ∈ an.getD e []) := by
  have hi : i < an.length := by
    rcases Nat.lt_or_ge i an.length with h | h
    · exact h
    · simp [List.getD, List.getElem?_eq_none h] at hj
  have h1 := List.all_eq_true.1 (List.all_eq_true.1 h i (List.mem_range.2 hi)) j hj
  split at h1
  · rename_i o ho
    obtain ⟨e, he, h2⟩ := List.any_eq_true.1 h1
    refine ⟨o, ho, e, he, ?_⟩
    simp only [Bool.or_eq_true, beq_iff_eq, Bool.and_eq_true, decide_eq_true_eq] at h2
    rcases h2 with h2 | ⟨h2, h3⟩
    · exact .inl h2
    · exact .inr ⟨h2, by simpa using h3⟩
  · cases h1
theorem bEdges_spec {o : Oper} {j : Nat} : j ∈ bEdges md o ↔ ∃ e ∈ o.after, Region.binds md e = true ∧ e.on = j := by
  unfold bEdges
  simp [List.mem_map, List.mem_filter, and_assoc]
theorem anc_listed {L : Array Bool} (hA : ancOK md lops an = true) (hc : Closed md lops.toArray L) : ∀ (i : Nat) (o : Oper), lops[i]? = some o → (∀ e ∈ bEdges md o, L.getD e false = true) → ∀ j ∈ an.getD i [], L.getD j false = true := by
  intro i
  induction i using Nat.strongRecOn with
  | _ i ih =>
    intro o ho hall j hj
    obtain ⟨o', ho', e, he, h'⟩ := anc_spec hA i j hj
    have : o' = o := Option.some.inj (ho'.symm.trans ho)
    subst this
    have hLe := hall e he
    rcases h' with rfl | ⟨hlt, h'⟩
    · exact hLe
    · obtain ⟨oe, hoe, _⟩ := anc_spec hA e j h'
      refine ih e hlt oe hoe (fun e' he' => ?_) j h'
      obtain ⟨x, hx, hb, hon⟩ := bEdges_spec.1 he'
      have := hc.2 e oe (by simpa using hoe) hLe x hx hb
      rw [hon] at this
      exact this
end anc

/-- The run of a hard operation: a value and a world, or a call that comes back with them. -/
def HRun (P : Program) (o : Oper) (a : Act) (w : World) (K : Value → World → Prop) : Prop :=
  match (execOp a.eval o).run P w with
  | .ok (.value v) w' => K v w'
  | .ok .skip w' => K undef w'
  | .ok (.enter f args) w' => Calls P f args w' fun e w'' => ∃ v, e = .returned v ∧ K v w''
  | _ => False

theorem exec_agree {o : Oper} (hs : ∀ cs b, o.op ≠ .select cs b) {ops : Array Oper} {a b : Act} (h : ∀ t ∈ o.looksAt ops, a.tmps[t]? = b.tmps[t]?) : execOp a.eval o = execOp b.eval o :=
  execOp_congr o hs fun x hx => by
    cases x with
    | tmp t =>
      have := h t (List.mem_append_left _ (List.mem_filterMap.2 ⟨.tmp t, by simpa using hx, rfl⟩))
      simp only [Act.eval, Array.getD_eq_getD_getElem?, this]
    | _ => rfl
theorem wanted_agree {o : Oper} {ops : Array Oper} {a b : Act} (h : ∀ t ∈ o.looksAt ops, a.tmps[t]? = b.tmps[t]?) : Region.wanted o (yielded ops a.tmps) = Region.wanted o (yielded ops b.tmps) := by
  unfold Region.wanted
  cases hg : o.guard with
  | none => rfl
  | some gw =>
    obtain ⟨g, want⟩ := gw
    have hy : yielded ops a.tmps g = yielded ops b.tmps g := by
      unfold yielded
      cases ht : (ops[g]?).bind (·.dst) with
      | none => rfl
      | some t =>
        have := h t (by simp [Oper.looksAt, hg, ht])
        simp [this]
    simp only [hy]

theorem run_value_ne {s : Sem Value} {P : Program} {w w' : World} {f : FuncId} {args : Array Value} : ((do pure (Next.value (← s))) : Sem Next).run P w ≠ .ok (.enter f args) w' := by
  rw [Sem.run_bind]
  cases s.run P w with
  | ok v w1 => simp [Result.andThen]
  | halt x w1 => simp [Result.andThen]
theorem run_skip_ne {s : Sem Unit} {P : Program} {w w' : World} {f : FuncId} {args : Array Value} : ((do s; pure Next.skip) : Sem Next).run P w ≠ .ok (.enter f args) w' := by
  rw [Sem.run_bind]
  cases s.run P w with
  | ok v w1 => simp [Result.andThen]
  | halt x w1 => simp [Result.andThen]


/-! ### The static side, as facts -/
theorem dst_one : ∀ (l : List Oper), dstB l = true → ∀ (i j : Nat) (oi oj : Oper) (d : Tmp), l[i]? = some oi → l[j]? = some oj → oi.dst = some d → oj.dst = some d → i = j
  | [], _, i, _, _, _, _, hi, _, _, _ => by simp at hi
  | o :: l, h, i, j, oi, oj, d, hi, hj, di, dj => by
    simp only [dstB, Bool.and_eq_true, List.all_eq_true] at h
    have far : ∀ (k : Nat) (ok : Oper), l[k]? = some ok → o.dst = some d → ok.dst = some d → False := fun k ok hk h1 h2 => by
      have := h.1 ok (List.mem_of_getElem? hk)
      rw [h1, h2] at this
      simp at this
    cases i with
    | zero => cases j with
      | zero => rfl
      | succ j =>
        have e : o = oi := by simpa using hi
        subst e
        exact absurd dj (fun dj => far j oj (by simpa using hj) di dj)
    | succ i => cases j with
      | zero =>
        have e : o = oj := by simpa using hj
        subst e
        exact absurd di (fun di => far i oi (by simpa using hi) dj di)
      | succ j => exact congrArg (· + 1) (dst_one l h.2 i j oi oj d (by simpa using hi) (by simpa using hj) di dj)

structure Chk (lops : List Oper) (an : List (List Nat)) (m1 m2 : List Bool) (st : List St) : Prop where
  anc : ancOK .any lops an = true
  nosel : ∀ (j : Nat) (o : Oper) cs b, lops[j]? = some o → o.op ≠ .select cs b
  dst : dstB lops = true
  back : ∀ i o, lops[i]? = some o → ∀ e ∈ bEdges .any o, e < i
  reads : ∀ i o j oj d, lops[i]? = some o → lops[j]? = some oj → oj.dst = some d → d ∈ o.looksAt lops.toArray → j ∈ bEdges .any o ∧ ¬ (m1.getD i false = true ∧ m2.getD j false = true)
  kind1 : ∀ i, i < lops.length → m1.getD i false = true → m2.getD i false = false ∧ ∀ s ∈ st, s.i ≠ i
  kind2 : ∀ i, i < lops.length → m2.getD i false = true → m1.getD i false = false ∧ ∀ s ∈ st, s.i ≠ i
  kind3 : ∀ i, i < lops.length → (∀ s ∈ st, s.i ≠ i) → m1.getD i false = true ∨ m2.getD i false = true
  len1 : m1.length = lops.length
  len2 : m2.length = lops.length
  lt : ∀ s ∈ st, s.i < lops.length
  need : ∀ s ∈ st, ∀ j ∈ s.need, j ∈ an.getD s.i [] ∧ (∃ s' ∈ st, s'.i = j) ∧ j ≠ s.i ∧ ∀ s' ∈ st, s'.tgt = some j → s'.i = s.i
  dep : ∀ s ∈ st, ∀ j ∈ s.dep, j ∈ an.getD s.i [] ∧ ∃ s' ∈ st, s'.i = j
  tgt : ∀ s ∈ st, ∀ t, s.tgt = some t → t ∈ s.need
theorem chk_of {lops : List Oper} {an : List (List Nat)} {m1 m2 : List Bool} {st : List St} (h : regB .any lops an m1 m2 st = true) : Chk lops an m1 m2 st := by
  simp only [regB, Bool.and_eq_true] at h
  obtain ⟨⟨⟨⟨⟨⟨h0, h1⟩, h2⟩, h3⟩, h4⟩, h5, h6⟩, h7⟩ := h
  have mem : ∀ i, (st.map (·.i)).contains i = true ↔ ∃ s ∈ st, s.i = i := fun i => by simp
  have mem' : ∀ i, (st.map (·.i)).contains i = false ↔ ∀ s ∈ st, s.i ≠ i := fun i => by simp
  have k3 := List.all_eq_true.1 h3
  have k4 := List.all_eq_true.1 h4
  have k7 := List.all_eq_true.1 h7
  have lt_of : ∀ {i : Nat} {o : Oper}, lops[i]? = some o → i ∈ List.range lops.length := fun ho => List.mem_range.2 (List.getElem?_eq_some_iff.1 ho).1
  refine ⟨h0, fun j o cs b ho => Region.noSelect_spec h1 j o cs b (by simpa using ho), h2, fun i o ho e he => ?_, fun i o j oj d ho hoj hd hm => ?_, fun i hi hm => ?_, fun i hi hm => ?_, fun i hi hm => ?_, of_decide_eq_true h5, of_decide_eq_true h6, fun s hs => ?_, fun s hs j hj => ?_, fun s hs j hj => ?_, fun s hs t ht => ?_⟩
  · have := k3 i (lt_of ho)
    simp only [ho, Bool.and_eq_true] at this
    exact of_decide_eq_true ((List.all_eq_true.1 this.1) e he)
  · have := k3 i (lt_of ho)
    simp only [ho, Bool.and_eq_true] at this
    have := (List.all_eq_true.1 this.2) j (lt_of hoj)
    have e : (lops[j]?).bind (·.dst) = some d := by rw [hoj]; exact hd
    rw [e] at this
    simp only [Bool.or_eq_true, Bool.not_eq_true', Bool.and_eq_true] at this
    rcases this with h | ⟨h, h'⟩
    · simp at h; exact absurd hm h
    · exact ⟨by simpa using h, fun ⟨a, b⟩ => by rw [a, b] at h'; cases h'⟩
  · have := k4 i (List.mem_range.2 hi)
    rw [hm] at this
    simp only [if_true, Bool.and_eq_true, Bool.not_eq_true'] at this
    exact ⟨this.1, (mem' i).1 this.2⟩
  · have := k4 i (List.mem_range.2 hi)
    cases hm1 : m1.getD i false with
    | true =>
      rw [hm1, hm] at this
      simp at this
    | false =>
      rw [hm1, hm] at this
      simp only [if_true, Bool.false_eq_true, if_false, Bool.not_eq_true'] at this
      exact ⟨rfl, (mem' i).1 this⟩
  · have := k4 i (List.mem_range.2 hi)
    cases hm1 : m1.getD i false with
    | true => exact .inl rfl
    | false =>
      cases hm2 : m2.getD i false with
      | true => exact .inr rfl
      | false =>
        rw [hm1, hm2] at this
        simp only [Bool.false_eq_true, if_false] at this
        obtain ⟨s, hs, e⟩ := (mem i).1 this
        exact absurd e (hm s hs)
  · have := k7 s hs
    simp only [Bool.and_eq_true] at this
    exact of_decide_eq_true this.1.1.1
  · have := k7 s hs
    simp only [Bool.and_eq_true] at this
    have := (List.all_eq_true.1 this.1.1.2) j hj
    simp only [Bool.and_eq_true] at this
    refine ⟨by simpa using this.1.1.1, (mem j).1 this.1.1.2, of_decide_eq_true this.1.2, fun s' hs' ht => ?_⟩
    have := (List.all_eq_true.1 this.2) s' hs'
    rw [ht] at this
    simpa using this
  · have := k7 s hs
    simp only [Bool.and_eq_true] at this
    have := (List.all_eq_true.1 this.1.2) j hj
    simp only [Bool.and_eq_true] at this
    exact ⟨by simpa using this.1, (mem j).1 this.2⟩
  · have := k7 s hs
    simp only [Bool.and_eq_true] at this
    have := this.2
    rw [ht] at this
    simpa using this

/-! ### What is asked, and what follows -/
def Eb (an : List (List Nat)) (st : List St) (wr : Nat → Nat → Prop) (i k : Nat) : Prop := ∀ s ∈ st, wr s.i k → s.i = i ∨ i ∈ an.getD s.i []
def tgtF (s : St) (F : Nat → Nat → Prop) (k : Nat) : Prop := match s.tgt with | some t => F t k | none => False
def Holds (a : Act) (o : Oper) (v : Value) : Prop := ∀ d, o.dst = some d → d < a.tmps.size → a.tmps[d]? = some v

structure AfOk (P : Program) (lops : List Oper) (an : List (List Nat)) (st : List St) (wr : Nat → Nat → Prop) (w0 : World) (a0 : Act) (af : (Nat → Par) → Act) (shape : Nat → Par → Value) : Prop where
  size : ∀ x, (af x).tmps.size = a0.tmps.size
  defers : ∀ x, (af x).defers = a0.defers
  out : ∀ x d, (∀ o ∈ lops, o.dst ≠ some d) → (af x).tmps[d]? = a0.tmps[d]?
  hard : ∀ x, ∀ s ∈ st, ∀ o, lops[s.i]? = some o → Holds (af x) o (shape s.i (x s.i))
  quiet : ∀ x i o, lops[i]? = some o → (∀ s ∈ st, s.i ≠ i) → ∀ D, Good (fun k => k < w0.heap.size ∧ Eb an st wr i k) w0 D → ∃ v, Holds (af x) o v ∧ YieldsIn P lops.toArray D o v (af x)
  call : ∀ x x' i o, lops[i]? = some o → (∀ s ∈ st, s.i ≠ i) → (∀ (a : Act) w f args w', (execOp a.eval o).run P w ≠ .ok (.enter f args) w') ∨ slotOf (af x) o = slotOf (af x') o

def Obl (P : Program) (lops : List Oper) (an : List (List Nat)) (st : List St) (wr : Nat → Nat → Prop) (w0 : World) (af : (Nat → Par) → Act) (shape : Nat → Par → Value) (R : Nat → (Nat → Par) → (Nat → Prop) → World → Prop) (s : St) : Prop :=
  ∀ (x : Nat → Par) (w : World) (F : Nat → Nat → Prop), Kept (fun k => k < w0.heap.size ∧ Eb an st wr s.i k) w0 w → (∀ j ∈ s.need, (∀ k, F j k → k < w.heap.size) ∧ R j x (F j) w) →
    ∃ o, lops[s.i]? = some o ∧ Region.wanted o (yielded lops.toArray (af x).tmps) = true ∧ HRun P o (af x) w fun v w' => ∃ y G, v = shape s.i y ∧
      Kept (fun k => k < w.heap.size ∧ ¬ (wr s.i k ∨ tgtF s F k)) w w' ∧ (∀ k, G k → k < w'.heap.size ∧ (w.heap.size ≤ k ∨ wr s.i k ∨ tgtF s F k)) ∧ R s.i (upd x s.i y) G w'
def Live (st : List St) (L : Array Bool) (h : Nat) : Prop := ∀ s ∈ st, s.tgt = some h → L.getD s.i false = false
def Mix (lops : List Oper) (a0 : Act) (b : Act) (L : Array Bool) (a : Act) : Prop :=
  a.defers = a0.defers ∧ a.tmps.size = a0.tmps.size ∧ ∀ d, ((∃ i o, lops[i]? = some o ∧ L.getD i false = true ∧ o.dst = some d) → a.tmps[d]? = b.tmps[d]?) ∧ ((∀ i o, lops[i]? = some o → o.dst = some d → L.getD i false = false) → a.tmps[d]? = a0.tmps[d]?)

structure Inv (lops : List Oper) (st : List St) (wr : Nat → Nat → Prop) (w0 : World) (a0 : Act) (af : (Nat → Par) → Act) (R : Nat → (Nat → Par) → (Nat → Prop) → World → Prop) (c : Nat → Par) (F : Nat → Nat → Prop) (L : Array Bool) (a : Act) (w : World) : Prop where
  closed : Closed .any lops.toArray L
  kept : Kept (fun k => k < w0.heap.size ∧ ∀ s ∈ st, L.getD s.i false = true → ¬ wr s.i k) w0 w
  mix : ∀ x, (∀ s ∈ st, L.getD s.i false = true → x s.i = c s.i) → Mix lops a0 (af x) L a
  foot : ∀ s ∈ st, L.getD s.i false = true → ∀ k, F s.i k → k < w.heap.size ∧ (w0.heap.size ≤ k ∨ ∃ s2 ∈ st, L.getD s2.i false = true ∧ wr s2.i k)
  apart : ∀ s ∈ st, ∀ s' ∈ st, L.getD s.i false = true → L.getD s'.i false = true → s.i ≠ s'.i → Live st L s.i → Live st L s'.i → ∀ k, F s.i k → ¬ F s'.i k
  fact : ∀ s ∈ st, L.getD s.i false = true → Live st L s.i → R s.i c (F s.i) w

def unl (L : Array Bool) (n : Nat) : Nat := ((List.range n).filter fun i => !L.getD i true).length
theorem filter_lt {p q : Nat → Bool} : ∀ (l : List Nat) (i : Nat), i ∈ l → p i = true → q i = false → (∀ j, q j = true → p j = true) → (l.filter q).length < (l.filter p).length
  | [], i, hi, _, _, _ => by cases hi
  | a :: l, i, hi, hp, hq, hle => by
    have le : ∀ (l : List Nat), (l.filter q).length ≤ (l.filter p).length := fun l => by
      induction l with
      | nil => simp
      | cons b l ih =>
        by_cases hb : q b = true
        · simp [hb, hle b hb]; exact ih
        · cases hpb : p b <;> simp [hb, hpb] <;> omega
    rcases List.mem_cons.1 hi with rfl | hi
    · simp [hp, hq]; have := le l; omega
    · have := filter_lt l i hi hp hq hle
      by_cases hb : q a = true
      · simp [hb, hle a hb]; exact this
      · cases hpb : p a <;> simp [hb, hpb] <;> omega
theorem unl_set {L : Array Bool} {n i : Nat} (hi : i < n) (hL : L.getD i true = false) : unl (L.setIfInBounds i true) n < unl L n := by
  have hs : i < L.size := by
    rcases Nat.lt_or_ge i L.size with h | h
    · exact h
    · simp [Array.getElem?_eq_none h] at hL
  refine filter_lt _ i (List.mem_range.2 hi) (by rw [hL]; rfl) (by simp [Array.getD, hs]) (fun j hj => ?_)
  by_cases hij : i = j
  · subst hij; rw [hL]; rfl
  · rw [getD_set_ne true hij] at hj; exact hj
end Go.Proofs.Ytidbjidcjmbnlaa
end
section
namespace Go.Proofs.Ytidbjidcjmbnlaa
open Go Go.RowKit

/-- The memory of two facts that stand at the end is not the same. -/
def Aparts (st : List St) (F : Nat → Nat → Prop) : Prop := ∀ s ∈ st, ∀ s' ∈ st, s.i ≠ s'.i → (∀ t ∈ st, t.tgt ≠ some s.i) → (∀ t ∈ st, t.tgt ≠ some s'.i) → ∀ k, F s.i k → ¬ F s'.i k

section
variable {P : Program} {lops : List Oper} {an : List (List Nat)} {m1 m2 : List Bool} {st : List St} {w0 : World} {a0 : Act} {af : (Nat → Par) → Act} {shape : Nat → Par → Value} {wr : Nat → Nat → Prop} {R : Nat → (Nat → Par) → (Nat → Prop) → World → Prop}

theorem put_at {a : Act} {d : Tmp} {v : Value} (e : Tmp) : (a.put (some d) v).tmps[e]? = if d = e then (if d < a.tmps.size then some v else none) else a.tmps[e]? := by
  simp only [Act.put, Array.getElem?_setIfInBounds]
theorem put_size (a : Act) (d : Option Tmp) (v : Value) : (a.put d v).tmps.size = a.tmps.size := by cases d <;> simp [Act.put]
theorem put_defers (a : Act) (d : Option Tmp) (v : Value) : (a.put d v).defers = a.defers := by cases d <;> rfl
theorem put_far {a : Act} {o : Option Tmp} {v : Value} {e : Tmp} (h : o ≠ some e) : (a.put o v).tmps[e]? = a.tmps[e]? := by
  cases o with
  | none => rfl
  | some d => rw [put_at, if_neg (fun e' => h (by rw [e']))]

theorem mix_put {b a : Act} {L : Array Bool} {i : Nat} {o : Oper} {v : Value} (hb : b.tmps.size = a0.tmps.size) (hm : Mix lops a0 b L a) (ho : lops[i]? = some o) (hi : i < L.size) (hv : Holds b o v) : Mix lops a0 b (L.setIfInBounds i true) (a.put o.dst v) := by
  obtain ⟨h1, h2, h3⟩ := hm
  refine ⟨(put_defers _ _ _).trans h1, (put_size _ _ _).trans h2, fun d => ⟨fun ⟨j, oj, hj, hl, hd⟩ => ?_, fun hn => ?_⟩⟩
  · by_cases e : o.dst = some d
    · rw [e, put_at, if_pos rfl]
      by_cases hlt : d < a.tmps.size
      · rw [if_pos hlt, hv d e (by rw [hb, ← h2]; exact hlt)]
      · rw [if_neg hlt, Array.getElem?_eq_none (by rw [hb, ← h2]; exact Nat.le_of_not_lt hlt)]
    · rw [put_far e]
      refine (h3 d).1 ⟨j, oj, hj, ?_, hd⟩
      have hij : i ≠ j := fun e' => by
        subst e'
        have : oj = o := Option.some.inj (hj.symm.trans ho)
        subst this; exact e hd
      rwa [getD_set_ne false hij] at hl
  · have e : o.dst ≠ some d := fun e => by
      have := hn i o ho e
      simp [Array.getD, hi] at this
    rw [put_far e]
    refine (h3 d).2 fun j oj hj hd => ?_
    have := hn j oj hj hd
    by_cases hij : i = j
    · subst hij
      simp [Array.getD, hi] at this
    · rwa [getD_set_ne false hij] at this

theorem reads_eq (hk : Chk lops an m1 m2 st) {b a : Act} (hb : ∀ d, (∀ o ∈ lops, o.dst ≠ some d) → b.tmps[d]? = a0.tmps[d]?) {L : Array Bool} (hm : Mix lops a0 b L a) {i : Nat} {o : Oper} (ho : lops[i]? = some o) (hall : ∀ e ∈ bEdges .any o, L.getD e false = true) :
    ∀ t ∈ o.looksAt lops.toArray, a.tmps[t]? = b.tmps[t]? := fun t ht => by
  by_cases h : ∃ (j : Nat) (oj : Oper), lops[j]? = some oj ∧ oj.dst = some t
  · obtain ⟨j, oj, hj, hd⟩ := h
    exact (hm.2.2 t).1 ⟨j, oj, hj, hall j (hk.reads i o j oj t ho hj hd ht).1, hd⟩
  · rw [(hm.2.2 t).2 fun j oj hj hd => absurd ⟨j, oj, hj, hd⟩ h, hb t fun oj hoj hd => ?_]
    obtain ⟨j, hj⟩ := List.mem_iff_getElem?.1 hoj
    exact h ⟨j, oj, hj, hd⟩

theorem Kept.weak {S S' : Nat → Prop} {a b : World} (h : Kept S a b) (hs : ∀ k, S' k → S k) : Kept S' a b := ⟨h.os, h.tape, h.output, h.size, fun k hk => h.block k (hs k hk)⟩

theorem set_getD {L : Array Bool} {i j : Nat} (hi : i < L.size) : (L.setIfInBounds i true).getD j false = true ↔ j = i ∨ L.getD j false = true := by
  by_cases e : i = j
  · subst e; simp [Array.getD, hi]
  · rw [getD_set_ne false e]; constructor
    · exact .inr
    · rintro (h | h)
      · exact absurd h.symm e
      · exact h

theorem all_listed (hk : Chk lops an m1 m2 st) {L : Array Bool} (hs : L.size = lops.length) (hr : Region.ready .any lops.toArray L = []) : ∀ i, i < lops.length → L.getD i false = true := by
  intro i
  induction i using Nat.strongRecOn with
  | _ i ih =>
    intro hi
    cases h : L.getD i false with
    | true => rfl
    | false =>
      obtain ⟨o, ho⟩ : ∃ o, lops[i]? = some o := ⟨lops[i], by simp [hi]⟩
      have : i ∈ Region.ready .any lops.toArray L := mem_ready.2 ⟨by simp [Array.getD, show i < L.size by omega] at h ⊢; exact h, o, by simpa using ho, fun e he hb => ih e.on (hk.back i o ho e.on (bEdges_spec.2 ⟨e, he, hb, rfl⟩)) (by have := hk.back i o ho e.on (bEdges_spec.2 ⟨e, he, hb, rfl⟩); omega)⟩
      rw [hr] at this
      cases this

theorem anyX {Q : Exit → Act → World → Prop} (hk : Chk lops an m1 m2 st) (hok : AfOk P lops an st wr w0 a0 af shape) (hob : ∀ s ∈ st, Obl P lops an st wr w0 af shape R s)
    (hst : ∀ s ∈ st, ∀ x F w w', R s.i x F w → w.heap.size ≤ w'.heap.size → (∀ k, F k → w'.heap[k]? = w.heap[k]?) → R s.i x F w')
    (hdep : ∀ s ∈ st, ∀ x x' F w, (∀ j, j = s.i ∨ j ∈ s.dep → x j = x' j) → R s.i x F w → R s.i x' F w)
    (hwl : ∀ s ∈ st, ∀ k, wr s.i k → k < w0.heap.size) (hwr : ∀ s ∈ st, ∀ s' ∈ st, s.i ≠ s'.i → ∀ k, wr s.i k → ¬ wr s'.i k)
    (hfin : ∀ (x : Nat → Par) (w : World) (F : Nat → Nat → Prop), Kept (fun k => k < w0.heap.size ∧ ∀ s ∈ st, ¬ wr s.i k) w0 w → (∀ s ∈ st, (∀ s' ∈ st, s'.tgt ≠ some s.i) → R s.i x (F s.i) w) → Aparts st F → Q .normal (af x) w) :
    ∀ (fuel : Nat) (L : Array Bool) (a : Act) (w : World) (c : Nat → Par) (F : Nat → Nat → Prop), unl L lops.length ≤ fuel → Inv lops st wr w0 a0 af R c F L a w → wpAny P .any lops.toArray Q fuel L a w := by
  have fin : ∀ (L : Array Bool) (a : Act) (w : World) (c : Nat → Par) (F : Nat → Nat → Prop), Inv lops st wr w0 a0 af R c F L a w → Region.ready .any lops.toArray L = [] → Q .normal a w := by
    intro L a w c F hi hr
    have hall := all_listed hk (by simpa using hi.closed.1) hr
    obtain ⟨h1, h2, h3⟩ := hi.mix c (fun _ _ _ => rfl)
    have ha : a = af c := by
      have e1 : a.tmps = (af c).tmps := by
        refine Array.ext_getElem? fun d => ?_
        by_cases h : ∃ (j : Nat) (oj : Oper), lops[j]? = some oj ∧ oj.dst = some d
        · obtain ⟨j, oj, hj, hd⟩ := h
          exact (h3 d).1 ⟨j, oj, hj, hall j (List.getElem?_eq_some_iff.1 hj).1, hd⟩
        · rw [(h3 d).2 fun j oj hj hd => absurd ⟨j, oj, hj, hd⟩ h, hok.out c d fun oj hoj hd => ?_]
          obtain ⟨j, hj⟩ := List.mem_iff_getElem?.1 hoj
          exact h ⟨j, oj, hj, hd⟩
      have e2 : a.defers = (af c).defers := h1.trans (hok.defers c).symm
      cases a
      generalize af c = b at *
      cases b
      simp only at e1 e2
      rw [e1, e2]
    rw [ha]
    refine hfin c w F (hi.kept.weak fun k hk' => ⟨hk'.1, fun s hs _ => hk'.2 s hs⟩) (fun s hs hl => ?_) fun s hs s' hs' hne h1 h2 => hi.apart s hs s' hs' (hall _ (hk.lt s hs)) (hall _ (hk.lt s' hs')) hne (fun t ht he => absurd he (h1 t ht)) (fun t ht he => absurd he (h2 t ht))
    exact hi.fact s hs (hall _ (hk.lt s hs)) fun s' hs' ht => absurd ht (hl s' hs')
  intro fuel
  induction fuel with
  | zero =>
    intro L a w c F hu hi
    have hr : Region.ready .any lops.toArray L = [] := by
      cases h : Region.ready .any lops.toArray L with
      | nil => rfl
      | cons i l =>
        have hm : i ∈ Region.ready .any lops.toArray L := by rw [h]; exact List.mem_cons_self
        obtain ⟨hL, o, ho, _⟩ := mem_ready.1 hm
        have := unl_set (L := L) (n := lops.length) (i := i) (by simpa using (Array.getElem?_eq_some_iff.1 ho).1) hL
        omega
    exact ⟨hr, fin L a w c F hi hr⟩
  | succ fuel ih =>
    intro L a w c F hu hi
    refine ⟨fin L a w c F hi, fun i hir => ?_⟩
    obtain ⟨hL, o, ho', hall'⟩ := mem_ready.1 hir
    have ho : lops[i]? = some o := by simpa using ho'
    have hin : i < lops.length := (List.getElem?_eq_some_iff.1 ho).1
    have his : i < L.size := by rw [hi.closed.1]; simpa using hin
    have hLf : L.getD i false = false := getD_ff hL
    have hu' : unl (L.setIfInBounds i true) lops.length ≤ fuel := by have := unl_set hin hL; omega
    have hall : ∀ e ∈ bEdges .any o, L.getD e false = true := fun e he => by
      obtain ⟨x, hx, hb, hon⟩ := bEdges_spec.1 he
      rw [← hon]; exact hall' x hx hb
    have hanc := anc_listed hk.anc hi.closed i o ho hall
    have hcl := hi.closed.set hir
    have rd : ∀ x, (∀ s ∈ st, L.getD s.i false = true → x s.i = c s.i) → ∀ t ∈ o.looksAt lops.toArray, a.tmps[t]? = (af x).tmps[t]? := fun x hx => reads_eq hk (hok.out x) (hi.mix x hx) ho hall
    have ex : ∀ x, (∀ s ∈ st, L.getD s.i false = true → x s.i = c s.i) → execOp a.eval o = execOp (af x).eval o := fun x hx => exec_agree (hk.nosel i o · · ho) (rd x hx)
    have wa : ∀ x, (∀ s ∈ st, L.getD s.i false = true → x s.i = c s.i) → Region.wanted o (yielded lops.toArray a.tmps) = Region.wanted o (yielded lops.toArray (af x).tmps) := fun x hx => wanted_agree (rd x hx)
    have cc : ∀ s ∈ st, L.getD s.i false = true → c s.i = c s.i := fun _ _ _ => rfl
    -- what is kept from the beginning for this operation
    have keptE : Kept (fun k => k < w0.heap.size ∧ Eb an st wr i k) w0 w := hi.kept.weak fun k hk' => ⟨hk'.1, fun s hs hl hw => by
      rcases hk'.2 s hs hw with e | e
      · rw [e, hLf] at hl; cases hl
      · obtain ⟨os, hos, _⟩ := anc_spec hk.anc _ _ e
        have hcs : ∀ e ∈ bEdges .any os, L.getD e false = true := fun e he => by
          obtain ⟨x, hx, hb, hon⟩ := bEdges_spec.1 he
          rw [← hon]; exact hi.closed.2 s.i os (by simpa using hos) hl x hx hb
        rw [anc_listed hk.anc hi.closed s.i os hos hcs i e] at hLf
        cases hLf⟩
    unfold wpOp
    simp only [ho']
    by_cases hhard : ∃ s ∈ st, s.i = i
    · -- a hard operation
      obtain ⟨s, hs, hsi⟩ := hhard
      have need : ∀ j ∈ s.need, (∀ k, F j k → k < w.heap.size) ∧ R j c (F j) w := fun j hj => by
        obtain ⟨h1, ⟨sj, hsj, e⟩, hne, hsup⟩ := hk.need s hs j hj
        rw [hsi] at h1
        have hLj := hanc j h1
        subst e
        refine ⟨fun k hFk => (hi.foot sj hsj hLj k hFk).1, hi.fact sj hsj hLj fun s' hs' ht => ?_⟩
        rw [hsup s' hs' ht, hsi]; exact hLf
      obtain ⟨o', ho'', hw, hrun⟩ := hob s hs c w F (by rw [hsi]; exact keptE) need
      have : o' = o := by rw [hsi, ho] at ho''; exact (Option.some.inj ho'').symm
      subst this
      rw [wa c cc, hw]
      simp only [if_true]
      left
      -- the next state
      have step : ∀ v w', (∃ y G, v = shape s.i y ∧ Kept (fun k => k < w.heap.size ∧ ¬ (wr s.i k ∨ tgtF s F k)) w w' ∧ (∀ k, G k → k < w'.heap.size ∧ (w.heap.size ≤ k ∨ wr s.i k ∨ tgtF s F k)) ∧ R s.i (upd c s.i y) G w') →
          wpAny P .any lops.toArray Q fuel (L.setIfInBounds i true) (a.put o'.dst v) w' := by
        rintro v w' ⟨y, G, rfl, hkw, hG, hR⟩
        subst hsi
        have old : ∀ s' ∈ st, L.getD s'.i false = true → s'.i ≠ s.i := fun s' _ hl e => by rw [e, hLf] at hl; cases hl
        have tgtL : ∀ t, s.tgt = some t → ∃ s' ∈ st, s'.i = t ∧ L.getD t false = true ∧ Live st L t ∧ t ≠ s.i := fun t ht => by
          obtain ⟨h1, ⟨s', hs', e⟩, hne, hsup⟩ := hk.need s hs t (hk.tgt s hs t ht)
          exact ⟨s', hs', e, hanc t h1, fun s2 hs2 ht2 => by rw [hsup s2 hs2 ht2]; exact hLf, hne⟩
        -- nothing that another live fact is about is turned
        have safe : ∀ s' ∈ st, L.getD s'.i false = true → Live st L s'.i → s.tgt ≠ some s'.i → ∀ k, F s'.i k → k < w.heap.size ∧ ¬ (wr s.i k ∨ tgtF s F k) := fun s' hs' hl hlive hnt k hFk => by
          refine ⟨(hi.foot s' hs' hl k hFk).1, fun h => ?_⟩
          rcases h with h | h
          · rcases (hi.foot s' hs' hl k hFk).2 with h2 | ⟨s2, hs2, hl2, hw2⟩
            · have := hwl s hs k h; omega
            · exact hwr s hs s2 hs2 (fun e => old s2 hs2 hl2 e.symm) k h hw2
          · unfold tgtF at h
            cases ht : s.tgt with
            | none => rw [ht] at h; exact h
            | some t =>
              rw [ht] at h
              obtain ⟨st', hst', e, hlt, hlv, _⟩ := tgtL t ht
              subst e
              exact hi.apart s' hs' st' hst' hl hlt (fun e => hnt (by rw [ht, e])) hlive hlv k hFk h
        refine ih _ _ _ (upd c s.i y) (fun j => if j = s.i then G else F j) hu' ⟨hcl, ?_, fun x hx => ?_, fun s' hs' hl k hFk => ?_, fun s1 hs1 s2 hs2 hl1 hl2 hne lv1 lv2 k h1 h2 => ?_, fun s' hs' hl hlv => ?_⟩
        · -- kept
          refine ⟨hkw.os.trans hi.kept.os, hkw.tape.trans hi.kept.tape, hkw.output.trans hi.kept.output, Nat.le_trans hi.kept.size hkw.size, fun k ⟨h1, h2⟩ => ?_⟩
          refine (hkw.block k ⟨Nat.lt_of_lt_of_le h1 hi.kept.size, fun h => ?_⟩).trans (hi.kept.block k ⟨h1, fun s' hs' hl => h2 s' hs' ((set_getD his).2 (.inr hl))⟩)
          rcases h with h | h
          · exact h2 s hs ((set_getD his).2 (.inl rfl)) h
          · unfold tgtF at h
            cases ht : s.tgt with
            | none => rw [ht] at h; exact h
            | some t =>
              rw [ht] at h
              obtain ⟨st', hst', e, hlt, hlv, _⟩ := tgtL t ht
              subst e
              rcases (hi.foot st' hst' hlt k h).2 with h3 | ⟨s2, hs2, hl2, hw2⟩
              · omega
              · exact h2 s2 hs2 ((set_getD his).2 (.inr hl2)) hw2
        · -- the frame
          have hx' : ∀ s' ∈ st, L.getD s'.i false = true → x s'.i = c s'.i := fun s' hs' hl => by
            rw [hx s' hs' ((set_getD his).2 (.inr hl)), upd_ne _ _ (old s' hs' hl)]
          have e : x s.i = y := by rw [hx s hs ((set_getD his).2 (.inl rfl)), upd_same]
          exact mix_put (hok.size x) (hi.mix x hx') ho his (by rw [← e]; exact hok.hard x s hs o' ho)
        · -- footprints
          by_cases e : s'.i = s.i
          · rw [e] at hFk
            simp only [if_true] at hFk
            obtain ⟨h1, h2⟩ := hG k hFk
            refine ⟨h1, ?_⟩
            rcases h2 with h2 | h2 | h2
            · exact .inl (Nat.le_trans hi.kept.size h2)
            · exact .inr ⟨s, hs, (set_getD his).2 (.inl rfl), h2⟩
            · unfold tgtF at h2
              cases ht : s.tgt with
              | none => rw [ht] at h2; exact h2.elim
              | some t =>
                rw [ht] at h2
                obtain ⟨st', hst', e, hlt, hlv, _⟩ := tgtL t ht
                subst e
                rcases (hi.foot st' hst' hlt k h2).2 with h3 | ⟨s2, hs2, hl2, hw2⟩
                · exact .inl h3
                · exact .inr ⟨s2, hs2, (set_getD his).2 (.inr hl2), hw2⟩
          · simp only [e, if_false] at hFk
            have hl' := ((set_getD his).1 hl).resolve_left e
            obtain ⟨h1, h2⟩ := hi.foot s' hs' hl' k hFk
            refine ⟨Nat.lt_of_lt_of_le h1 hkw.size, ?_⟩
            rcases h2 with h2 | ⟨s2, hs2, hl2, hw2⟩
            · exact .inl h2
            · exact .inr ⟨s2, hs2, (set_getD his).2 (.inr hl2), hw2⟩
        · -- apart
          have liveOld : ∀ j, Live st (L.setIfInBounds s.i true) j → Live st L j ∧ s.tgt ≠ some j := fun j lv => by
            refine ⟨fun s3 hs3 ht => ?_, fun ht => ?_⟩
            · have := lv s3 hs3 ht
              cases h3 : L.getD s3.i false with
              | false => rfl
              | true => rw [(set_getD his).2 (.inr h3)] at this; cases this
            · have := lv s hs ht
              rw [(set_getD his).2 (.inl rfl)] at this; cases this
          have newOld : ∀ s3 ∈ st, L.getD s3.i false = true → Live st L s3.i → s.tgt ≠ some s3.i → ∀ k, G k → ¬ F s3.i k := fun s3 hs3 hl3 lv3 hnt k hGk hFk => by
            obtain ⟨h1, h2⟩ := safe s3 hs3 hl3 lv3 hnt k hFk
            obtain ⟨_, h3⟩ := hG k hGk
            rcases h3 with h3 | h3
            · omega
            · exact h2 h3
          by_cases e1 : s1.i = s.i
          · have e2 : s2.i ≠ s.i := fun e => hne (e1.trans e.symm)
            simp only [e1, if_true] at h1
            simp only [e2, if_false] at h2
            have hl2' := ((set_getD his).1 hl2).resolve_left e2
            obtain ⟨a1, a2⟩ := liveOld _ lv2
            exact newOld s2 hs2 hl2' a1 a2 k h1 h2
          · simp only [e1, if_false] at h1
            have hl1' := ((set_getD his).1 hl1).resolve_left e1
            obtain ⟨a1, a2⟩ := liveOld _ lv1
            by_cases e2 : s2.i = s.i
            · simp only [e2, if_true] at h2
              exact newOld s1 hs1 hl1' a1 a2 k h2 h1
            · simp only [e2, if_false] at h2
              have hl2' := ((set_getD his).1 hl2).resolve_left e2
              exact hi.apart s1 hs1 s2 hs2 hl1' hl2' hne a1 (liveOld _ lv2).1 k h1 h2
        · -- facts
          by_cases e : s'.i = s.i
          · simp only [e, if_true]; exact hR
          · simp only [e, if_false]
            have hl' := ((set_getD his).1 hl).resolve_left e
            have lv' : Live st L s'.i := fun s3 hs3 ht => by
              have := hlv s3 hs3 ht
              cases h3 : L.getD s3.i false with
              | false => rfl
              | true => rw [(set_getD his).2 (.inr h3)] at this; cases this
            have hnt : s.tgt ≠ some s'.i := fun ht => by
              have := hlv s hs ht
              rw [(set_getD his).2 (.inl rfl)] at this; cases this
            refine hst s' hs' _ _ w w' (hdep s' hs' c _ _ _ (fun j hj => ?_) (hi.fact s' hs' hl' lv')) hkw.size fun k hFk => hkw.block k (safe s' hs' hl' lv' hnt k hFk)
            refine (upd_ne c y ?_).symm
            rcases hj with rfl | hj
            · exact e
            · obtain ⟨os, hos, _⟩ := anc_spec hk.anc _ _ (hk.dep s' hs' j hj).1
              have hcs : ∀ e ∈ bEdges .any os, L.getD e false = true := fun e he => by
                obtain ⟨x, hx, hb, hon⟩ := bEdges_spec.1 he
                rw [← hon]; exact hi.closed.2 s'.i os (by simpa using hos) hl' x hx hb
              have := anc_listed hk.anc hi.closed s'.i os hos hcs j (hk.dep s' hs' j hj).1
              intro e; rw [e, hLf] at this; cases this
      unfold Oper.wp
      unfold HRun at hrun
      rw [ex c cc]
      generalize (execOp (af c).eval o').run P w = r at *
      cases r with
      | ok n w' =>
        cases n <;> simp only at hrun <;> simp only [Oper.upon]
        case value u => exact step u w' hrun
        case skip => exact step undef w' hrun
        case enter f args => exact hrun.mono fun e w'' ⟨v, he, hk'⟩ => by subst he; exact step v w'' hk'
      | halt x w' => simp only at hrun
    · -- a quiet operation
      have hq : ∀ s ∈ st, s.i ≠ i := fun s hs e => hhard ⟨s, hs, e⟩
      have good : Good (fun k => k < w0.heap.size ∧ Eb an st wr i k) w0 (Later w) :=
        ⟨fun w' h => kept_later (fun k hk' => hk'.1) keptE h, fun _ _ h h' => h.trans h', w, Later.refl w⟩
      have step : ∀ v w', Later w w' → (∀ x, (∀ s ∈ st, L.getD s.i false = true → x s.i = c s.i) → Holds (af x) o v) → wpAny P .any lops.toArray Q fuel (L.setIfInBounds i true) (a.put o.dst v) w' := by
        intro v w' hlw hv
        have up : ∀ s ∈ st, (L.setIfInBounds i true).getD s.i false = true → L.getD s.i false = true := fun s hs hl => ((set_getD his).1 hl).resolve_left (hq s hs)
        have lv : ∀ j, Live st (L.setIfInBounds i true) j → Live st L j := fun j h s hs ht => by
          have := h s hs ht
          cases h3 : L.getD s.i false with
          | false => rfl
          | true => rw [(set_getD his).2 (.inr h3)] at this; cases this
        refine ih _ _ _ c F hu' ⟨hcl, ?_, fun x hx => ?_, fun s' hs' hl k hFk => ?_, fun s1 hs1 s2 hs2 hl1 hl2 hne lv1 lv2 k h1 h2 => ?_, fun s' hs' hl hlv => ?_⟩
        · exact kept_later (fun k hk' => hk'.1) (hi.kept.weak fun k hk' => ⟨hk'.1, fun s hs hl => hk'.2 s hs ((set_getD his).2 (.inr hl))⟩) hlw
        · have hx' : ∀ s ∈ st, L.getD s.i false = true → x s.i = c s.i := fun s hs hl => hx s hs ((set_getD his).2 (.inr hl))
          exact mix_put (hok.size x) (hi.mix x hx') ho his (hv x hx')
        · obtain ⟨h1, h2⟩ := hi.foot s' hs' (up s' hs' hl) k hFk
          refine ⟨Nat.lt_of_lt_of_le h1 hlw.size, ?_⟩
          rcases h2 with h2 | ⟨s2, hs2, hl2, hw2⟩
          · exact .inl h2
          · exact .inr ⟨s2, hs2, (set_getD his).2 (.inr hl2), hw2⟩
        · exact hi.apart s1 hs1 s2 hs2 (up _ hs1 hl1) (up _ hs2 hl2) hne (lv _ lv1) (lv _ lv2) k h1 h2
        · exact hst s' hs' _ _ w w' (hi.fact s' hs' (up _ hs' hl) (lv _ hlv)) hlw.size fun k hFk => hlw.block k (hi.foot s' hs' (up _ hs' hl) k hFk).1
      obtain ⟨v, hv, hy⟩ := hok.quiet c i o ho hq (Later w) good
      rcases hy with ⟨hw, hqa⟩ | ⟨hw, hvu⟩
      · rw [wa c cc, hw]
        simp only [if_true]
        left
        have h1 := hqa w (Later.refl w)
        unfold Oper.quietAt at h1
        unfold Oper.wp
        have others : ∀ x, (∀ s ∈ st, L.getD s.i false = true → x s.i = c s.i) → ∃ vx, Holds (af x) o vx ∧ Oper.quietUpon P (Later w) w vx ((execOp (af c).eval o).run P w) := fun x hx => by
          obtain ⟨vx, hvx, hyx⟩ := hok.quiet x i o ho hq (Later w) good
          rcases hyx with ⟨_, hqx⟩ | ⟨hwx, _⟩
          · refine ⟨vx, hvx, ?_⟩
            have := hqx w (Later.refl w)
            unfold Oper.quietAt at this
            rwa [← ex x hx, ex c cc] at this
          · rw [← wa x hx, wa c cc, hw] at hwx; cases hwx
        have hcall := fun x => hok.call c x i o ho hq
        rw [ex c cc]
        generalize hr : (execOp (af c).eval o).run P w = r at *
        cases r with
        | ok n w' =>
          cases n <;> simp only [Oper.quietUpon] at h1 others <;> simp only [Oper.upon]
          case value u =>
            obtain ⟨e1, e2⟩ := h1
            refine step u w' (by rw [e1]; exact Later.refl w) fun x hx => ?_
            obtain ⟨vx, hvx, _, e3⟩ := others x hx
            rw [e3]; exact hvx
          case skip =>
            obtain ⟨e1, e2⟩ := h1
            refine step undef w' (by rw [e1]; exact Later.refl w) fun x hx => ?_
            obtain ⟨vx, hvx, _, e3⟩ := others x hx
            rw [← e3]; exact hvx
          case enter f args =>
            obtain ⟨e1, hc⟩ := h1
            subst e1
            refine hc.mono fun e w'' ⟨he, hw''⟩ => ?_
            subst he
            refine step v w'' hw'' fun x hx d hd hlt => ?_
            rcases hcall x with h | h
            · exact absurd hr (h _ _ _ _ _)
            · have hc := hv d hd (by rw [hok.size c, ← hok.size x]; exact hlt)
              simp only [slotOf, hd, Array.getD_eq_getD_getElem?, hc, Option.getD_some] at h
              rw [h]
              simp [hlt]
        | halt x w' => simp only [Oper.quietUpon] at h1
      · rw [wa c cc, hw]
        simp only [Bool.false_eq_true, if_false]
        refine step undef w (Later.refl w) fun x hx => ?_
        obtain ⟨vx, hvx, hyx⟩ := hok.quiet x i o ho hq (Later w) good
        rcases hyx with ⟨hwx, _⟩ | ⟨_, e⟩
        · rw [← wa x hx, wa c cc, hw] at hwx; cases hwx
        · rw [← e]; exact hvx
end
end Go.Proofs.Ytidbjidcjmbnlaa
end
section
namespace Go.Proofs.Ytidbjidcjmbnlaa
open Go Go.RowKit

def plainB (o : Oper) : Bool := match o.op with
  | .move _ | .assign _ | .build _ _ | .buildSlice _ _ _ | .load _ _ | .store _ _ _ | .binOp _ _ _ _ _ | .unOp _ _ _ | .convert _ _ _ | .slice _ _ _ _ _ | .fieldAddr _ _ _ | .field _ _ _ | .indexAddr _ _ _ | .index _ _ _ | .extract _ _ | .alloc _ | .box _ _ | .pick _ _ _ => true
  | .call { callee := .builtin .len, .. } | .call { callee := .builtin .cap, .. } | .call { callee := .builtin .min, .. } | .call { callee := .builtin .max, .. } => true
  | _ => false
theorem run_pick_ne {s : Sem Bool} {P : Program} {w w' : World} {f : FuncId} {args : Array Value} {u v : Value} : ((do pure (Next.value (if ← s then u else v))) : Sem Next).run P w ≠ .ok (.enter f args) w' := by
  rw [Sem.run_bind]
  cases s.run P w with
  | ok b w1 => simp [Result.andThen]
  | halt x w1 => simp [Result.andThen]
theorem plain_ne {o : Oper} (h : plainB o = true) {P : Program} (e : Operand → Value) (w : World) (f : FuncId) (args : Array Value) (w' : World) : (execOp e o).run P w ≠ .ok (.enter f args) w' := by
  obtain ⟨dst, op, ty, pos, aft, gd⟩ := o
  cases op
  case call c =>
    obtain ⟨callee, cargs, cty⟩ := c
    cases callee with
    | builtin b =>
      cases b <;> simp only [plainB, Bool.false_eq_true] at h
      all_goals
        simp only [execOp, resolve, Sem.run_bind, Sem.run_pure, Result.andThen_ok, invoke, builtin]
        generalize Sem.run P _ w = r
        cases r <;> simp [Result.andThen]
    | _ => simp [plainB] at h
  all_goals (simp only [plainB, Bool.false_eq_true] at h <;> first
    | (simp only [execOp]; exact run_value_ne)
    | (simp only [execOp]; exact run_skip_ne)
    | (simp only [execOp]; exact run_pick_ne)
    | (simp [execOp, Sem.run_pure]))

/-- The slots of the quiet calls. -/
def slotsB (m1 m2 : List Bool) (lops : List Oper) (ds : List Tmp) : Bool := (takeOps m1 lops ++ takeOps m2 lops).all fun o => plainB o || match o.dst with | some d => ds.contains d | none => true
def putH (shape : Nat → Par → Value) (x : Nat → Par) (lops : List Oper) : List St → Act → Act
  | [], a => a
  | s :: t, a => putH shape x lops t (a.put ((lops[s.i]?).bind (·.dst)) (shape s.i (x s.i)))

section
variable {P : Program} {lops : List Oper} {an : List (List Nat)} {m1 m2 : List Bool} {st : List St} {w0 : World} {a0 : Act} {shape : Nat → Par → Value} {wr : Nat → Nat → Prop} {R : Nat → (Nat → Par) → (Nat → Prop) → World → Prop}

theorem putH_size (x : Nat → Par) : ∀ (l : List St) (a : Act), (putH shape x lops l a).tmps.size = a.tmps.size
  | [], _ => rfl
  | s :: t, a => (putH_size x t _).trans (put_size _ _ _)
theorem putH_defers (x : Nat → Par) : ∀ (l : List St) (a : Act), (putH shape x lops l a).defers = a.defers
  | [], _ => rfl
  | s :: t, a => (putH_defers x t _).trans (put_defers _ _ _)
theorem putH_out (x : Nat → Par) {d : Tmp} : ∀ (l : List St) (a : Act), (∀ s ∈ l, (lops[s.i]?).bind (·.dst) ≠ some d) → (putH shape x lops l a).tmps[d]? = a.tmps[d]?
  | [], _, _ => rfl
  | s :: t, a, h => (putH_out x t _ (fun s' hs' => h s' (List.mem_cons_of_mem _ hs'))).trans (put_far (h s List.mem_cons_self))
theorem putH_in (hd : dstB lops = true) (x : Nat → Par) {d : Tmp} : ∀ (l : List St) (a : Act), ∀ s ∈ l, (lops[s.i]?).bind (·.dst) = some d → d < a.tmps.size → (putH shape x lops l a).tmps[d]? = some (shape s.i (x s.i))
  | [], _, s, hs, _, _ => by cases hs
  | s' :: t, a, s, hs, he, hlt => by
    by_cases h : ∃ s2 ∈ t, (lops[s2.i]?).bind (·.dst) = some d
    · obtain ⟨s2, hs2, he2⟩ := h
      have e : s.i = s2.i := by
        obtain ⟨o, ho, hdo⟩ := Option.bind_eq_some_iff.1 he
        obtain ⟨o2, ho2, hdo2⟩ := Option.bind_eq_some_iff.1 he2
        exact dst_one lops hd _ _ _ _ d ho ho2 hdo hdo2
      rw [e]
      exact putH_in hd x t _ s2 hs2 he2 (by rw [put_size]; exact hlt)
    · have hs' : s = s' := (List.mem_cons.1 hs).resolve_right fun h' => h ⟨s, h', he⟩
      subst hs'
      show (putH shape x lops t (a.put ((lops[s.i]?).bind (·.dst)) (shape s.i (x s.i)))).tmps[d]? = _
      rw [putH_out x t _ fun s2 hs2 h2 => h ⟨s2, hs2, h2⟩, he, put_at, if_pos rfl, if_pos hlt]

theorem mem_take {o : Oper} : ∀ (m : List Bool) (l : List Oper), o ∈ takeOps m l → ∃ j, m.getD j false = true ∧ l[j]? = some o
  | [], l, h => by cases l <;> simp [takeOps] at h
  | true :: m, [], h => by simp [takeOps] at h
  | false :: m, [], h => by simp [takeOps] at h
  | true :: m, o' :: l, h => by
    simp only [takeOps] at h
    rcases List.mem_cons.1 h with rfl | h
    · exact ⟨0, rfl, rfl⟩
    · obtain ⟨j, h1, h2⟩ := mem_take m l h
      exact ⟨j + 1, by simpa using h1, by simpa using h2⟩
  | false :: m, o' :: l, h => by
    simp only [takeOps] at h
    obtain ⟨j, h1, h2⟩ := mem_take m l h
    exact ⟨j + 1, by simpa using h1, by simpa using h2⟩

/-- One walk: what it has left alone, and what each of its operations yields at its end. -/
theorem walk_spec {ops : Array Oper} {C : World → Prop} {af : Act} : ∀ (m : List Bool) (l : List Oper) (a : Act), (∀ o ∈ l, ∀ cs b, o.op ≠ .select cs b) → dstB l = true → (∀ (i : Nat) (oi : Oper) (j : Nat) (oj : Oper) (d : Tmp), l[i]? = some oi → l[j]? = some oj → oj.dst = some d → d ∈ oi.looksAt ops → j < i) →
    wpQuiet P ops C (fun a' => a' = af) (takeOps m l) a →
    (af.tmps.size = a.tmps.size ∧ af.defers = a.defers ∧ (∀ d, (∀ o ∈ takeOps m l, o.dst ≠ some d) → af.tmps[d]? = a.tmps[d]?)) ∧
      ∀ j oj, m.getD j false = true → l[j]? = some oj → ∃ v, Holds af oj v ∧ YieldsIn P ops C oj v af
  | [], l, a, _, _, _, h => by
    have e : takeOps [] l = [] := by cases l <;> rfl
    rw [e] at h ⊢
    have : a = af := h
    subst this
    exact ⟨⟨rfl, rfl, fun _ _ => rfl⟩, fun j oj hj => by simp at hj⟩
  | true :: m, [], a, _, _, _, h => by
    have : a = af := h
    subst this
    exact ⟨⟨rfl, rfl, fun _ _ => rfl⟩, fun j oj _ hj => by simp at hj⟩
  | false :: m, [], a, _, _, _, h => by
    have : a = af := h
    subst this
    exact ⟨⟨rfl, rfl, fun _ _ => rfl⟩, fun j oj _ hj => by simp at hj⟩
  | false :: m, o :: l, a, hs, hd, hr, h => by
    simp only [dstB, Bool.and_eq_true] at hd
    obtain ⟨h1, h2⟩ := walk_spec m l a (fun o ho => hs o (List.mem_cons_of_mem _ ho)) hd.2 (fun i oi j oj d hi hj => fun h3 h4 => by have := hr (i + 1) oi (j + 1) oj d (by simpa using hi) (by simpa using hj) h3 h4; omega) h
    refine ⟨h1, fun j oj hm hj => ?_⟩
    cases j with
    | zero => simp at hm
    | succ j => exact h2 j oj (by simpa using hm) (by simpa using hj)
  | true :: m, o :: l, a, hs, hd, hr, h => by
    have hd' := hd
    simp only [dstB, Bool.and_eq_true] at hd
    have hex : ∃ v, YieldsIn P ops C o v a ∧ wpQuiet P ops C (fun a' => a' = af) (takeOps m l) (a.put o.dst v) := by
      simp only [takeOps] at h
      unfold wpQuiet at h
      split at h
      · rename_i hw
        obtain ⟨v, h1, h2⟩ := h
        exact ⟨v, .inl ⟨hw, h1⟩, h2⟩
      · rename_i hw
        exact ⟨undef, .inr ⟨by simpa using hw, rfl⟩, h⟩
    obtain ⟨v, hy, hn⟩ := hex
    obtain ⟨⟨s1, s2, s3⟩, h2⟩ := walk_spec m l _ (fun o ho => hs o (List.mem_cons_of_mem _ ho)) hd.2 (fun i oi j oj d hi hj => fun h3 h4 => by have := hr (i + 1) oi (j + 1) oj d (by simpa using hi) (by simpa using hj) h3 h4; omega) hn
    have far : ∀ d, o.dst = some d → ∀ o' ∈ takeOps m l, o'.dst ≠ some d := fun d hod o' ho' he => by
      obtain ⟨j, _, hj⟩ := mem_take m l ho'
      have := dst_one (o :: l) hd' 0 (j + 1) o o' d rfl (by simpa using hj) hod he
      omega
    refine ⟨⟨s1.trans (put_size _ _ _), s2.trans (put_defers _ _ _), fun d hdd => ?_⟩, fun j oj hm hj => ?_⟩
    · simp only [takeOps] at hdd
      rw [s3 d fun o' ho' => hdd o' (List.mem_cons_of_mem _ ho'), put_far (hdd o List.mem_cons_self)]
    · cases j with
      | succ j => exact h2 j oj (by simpa using hm) (by simpa using hj)
      | zero =>
        have e : oj = o := by simpa using hj.symm
        subst e
        refine ⟨v, fun d hod hlt => ?_, ?_⟩
        · rw [s3 d (far d hod), hod, put_at, if_pos rfl, if_pos (by rw [put_size] at s1; rw [← s1]; exact hlt)]
        · have agree : ∀ t ∈ oj.looksAt ops, af.tmps[t]? = a.tmps[t]? := fun t ht => by
            have h0 : oj.dst ≠ some t := fun he => by have := hr 0 oj 0 oj t rfl rfl he ht; omega
            rw [s3 t fun o' ho' he => by
              obtain ⟨j, _, hj⟩ := mem_take m l ho'
              have := hr 0 oj (j + 1) o' t rfl (by simpa using hj) he ht
              omega, put_far h0]
          exact hy.of_same (exec_agree (ops := ops) (hs oj List.mem_cons_self) agree) (wanted_agree agree)

theorem read_lt (hk : Chk lops an m1 m2 st) : ∀ (i : Nat) (oi : Oper) (j : Nat) (oj : Oper) (d : Tmp), lops[i]? = some oi → lops[j]? = some oj → oj.dst = some d → d ∈ oi.looksAt lops.toArray → j < i :=
  fun i oi j oj d hi hj hd hm => hk.back i oi hi j (hk.reads i oi j oj d hi hj hd hm).1

theorem of_walks {b af : (Nat → Par) → Act} (hk : Chk lops an m1 m2 st) {S1 S2 : Nat → Prop}
    (hS1 : ∀ k, S1 k → k < w0.heap.size ∧ ∀ i, m1.getD i false = true → Eb an st wr i k) (hS2 : ∀ k, S2 k → k < w0.heap.size ∧ ∀ i, m2.getD i false = true → Eb an st wr i k)
    (hq1 : ∀ x D, Good S1 w0 D → wpQuiet P lops.toArray (fun w' => ∃ y : Of D, w' = y.val) (fun a' => a' = b x) (takeOps m1 lops) (putH shape x lops st a0))
    (hq2 : ∀ x D, Good S2 w0 D → wpQuiet P lops.toArray (fun w' => ∃ y : Of D, w' = y.val) (fun a' => a' = af x) (takeOps m2 lops) (b x))
    {ds : List Tmp} (hds : slotsB m1 m2 lops ds = true) (hcall : ∀ d ∈ ds, ∀ x x', (af x).tmps.getD d undef = (af x').tmps.getD d undef) : AfOk P lops an st wr w0 a0 af shape := by
  have hns : ∀ o ∈ lops, ∀ cs b, o.op ≠ .select cs b := fun o ho cs b => by
    obtain ⟨j, hj⟩ := List.mem_iff_getElem?.1 ho
    exact hk.nosel j o cs b hj
  have W1 := fun x D (hD : Good S1 w0 D) => walk_spec m1 lops _ hns hk.dst (read_lt hk) (hq1 x D hD)
  have W2 := fun x D (hD : Good S2 w0 D) => walk_spec m2 lops _ hns hk.dst (read_lt hk) (hq2 x D hD)
  have d1 : Good S1 w0 (Kept (fun k => k < w0.heap.size) w0) := ⟨fun w h => h.weak fun k hk' => (hS1 k hk').1, fun _ _ h h' => kept_later (fun k hk' => hk') h h', w0, Kept.refl _ _⟩
  have d2 : Good S2 w0 (Kept (fun k => k < w0.heap.size) w0) := ⟨fun w h => h.weak fun k hk' => (hS2 k hk').1, fun _ _ h h' => kept_later (fun k hk' => hk') h h', w0, Kept.refl _ _⟩
  have A1 := fun x => (W1 x _ d1).1
  have A2 := fun x => (W2 x _ d2).1
  have not1 : ∀ s ∈ st, ∀ (o : Oper) (d : Tmp), lops[s.i]? = some o → o.dst = some d → ∀ o' ∈ takeOps m1 lops, o'.dst ≠ some d := fun s hs o d ho hd o' ho' he => by
    obtain ⟨j, hm, hj⟩ := mem_take m1 lops ho'
    have := dst_one lops hk.dst _ _ _ _ d ho hj hd he
    exact (hk.kind1 j (List.getElem?_eq_some_iff.1 hj).1 hm).2 s hs this
  have not2 : ∀ s ∈ st, ∀ (o : Oper) (d : Tmp), lops[s.i]? = some o → o.dst = some d → ∀ o' ∈ takeOps m2 lops, o'.dst ≠ some d := fun s hs o d ho hd o' ho' he => by
    obtain ⟨j, hm, hj⟩ := mem_take m2 lops ho'
    have := dst_one lops hk.dst _ _ _ _ d ho hj hd he
    exact (hk.kind2 j (List.getElem?_eq_some_iff.1 hj).1 hm).2 s hs this
  have take_mem : ∀ (m : List Bool) (o : Oper), o ∈ takeOps m lops → o ∈ lops := fun m o h => by
    obtain ⟨j, _, hj⟩ := mem_take m lops h
    exact List.mem_of_getElem? hj
  refine ⟨fun x => (A2 x).1.trans ((A1 x).1.trans (putH_size x _ _)), fun x => (A2 x).2.1.trans ((A1 x).2.1.trans (putH_defers x _ _)), fun x d hd => ?_, fun x s hs o ho d hd hlt => ?_, fun x i o ho hq D hD => ?_, fun x x' i o ho hq => ?_⟩
  · rw [(A2 x).2.2 d fun o ho => hd o (take_mem _ _ ho), (A1 x).2.2 d fun o ho => hd o (take_mem _ _ ho), putH_out x st a0 fun s _ he => ?_]
    obtain ⟨o, ho, hdo⟩ := Option.bind_eq_some_iff.1 he
    exact hd o (List.mem_of_getElem? ho) hdo
  · have h1 : d < a0.tmps.size := by rw [(A2 x).1, (A1 x).1, putH_size] at hlt; exact hlt
    rw [(A2 x).2.2 d (not2 s hs o d ho hd), (A1 x).2.2 d (not1 s hs o d ho hd)]
    exact putH_in hk.dst x st a0 s hs (by rw [ho]; exact hd) h1
  · have hin : i < lops.length := (List.getElem?_eq_some_iff.1 ho).1
    rcases hk.kind3 i hin hq with hm | hm
    · have hD1 : Good S1 w0 D := ⟨fun w hw => (hD.low w hw).weak fun k hk' => ⟨(hS1 k hk').1, (hS1 k hk').2 i hm⟩, hD.up, hD.ne⟩
      obtain ⟨v, hv, hy⟩ := (W1 x D hD1).2 i o hm ho
      have no2 : ∀ t ∈ o.looksAt lops.toArray, ∀ o' ∈ takeOps m2 lops, o'.dst ≠ some t := fun t ht o' ho' he => by
        obtain ⟨j, hm2, hj⟩ := mem_take m2 lops ho'
        exact (hk.reads i o j o' t ho hj he ht).2 ⟨hm, hm2⟩
      have agree : ∀ t ∈ o.looksAt lops.toArray, (af x).tmps[t]? = (b x).tmps[t]? := fun t ht => (A2 x).2.2 t (no2 t ht)
      refine ⟨v, fun d hd hlt => ?_, ?_⟩
      · rw [(A2 x).2.2 d fun o' ho' he => ?_]
        · exact hv d hd (by rw [← (A2 x).1]; exact hlt)
        · obtain ⟨j, hm2, hj⟩ := mem_take m2 lops ho'
          have := dst_one lops hk.dst _ _ _ _ d ho hj hd he
          subst this
          rw [(hk.kind1 i hin hm).1] at hm2
          cases hm2
      · have e : (fun w' => ∃ y : Of D, w' = y.val) = D := cls_eq D
        rw [e] at hy
        exact hy.of_same (exec_agree (ops := lops.toArray) (hk.nosel i o · · ho) agree) (wanted_agree agree)
    · have hD2 : Good S2 w0 D := ⟨fun w hw => (hD.low w hw).weak fun k hk' => ⟨(hS2 k hk').1, (hS2 k hk').2 i hm⟩, hD.up, hD.ne⟩
      obtain ⟨v, hv, hy⟩ := (W2 x D hD2).2 i o hm ho
      have e : (fun w' => ∃ y : Of D, w' = y.val) = D := cls_eq D
      rw [e] at hy
      exact ⟨v, hv, hy⟩
  · by_cases hp : plainB o = true
    · exact .inl fun a w f args w' => plain_ne hp a.eval w f args w'
    · right
      have hin : i < lops.length := (List.getElem?_eq_some_iff.1 ho).1
      have hmem : o ∈ takeOps m1 lops ++ takeOps m2 lops := by
        have take_in : ∀ (m : List Bool) (l : List Oper) (j : Nat), m.getD j false = true → l[j]? = some o → o ∈ takeOps m l := fun m => by
          induction m with
          | nil => intro l j h; simp at h
          | cons b m ihm =>
            intro l j h hl
            cases l with
            | nil => simp at hl
            | cons o' l =>
              cases j with
              | zero =>
                have e1 : b = true := by simpa using h
                have e2 : o' = o := by simpa using hl
                subst e1; subst e2
                exact List.mem_cons_self
              | succ j =>
                have := ihm l j (by simpa using h) (by simpa using hl)
                cases b
                · exact this
                · exact List.mem_cons_of_mem _ this
        rcases hk.kind3 i hin hq with hm | hm
        · exact List.mem_append_left _ (take_in m1 lops i hm ho)
        · exact List.mem_append_right _ (take_in m2 lops i hm ho)
      have h1 := List.all_eq_true.1 hds o hmem
      simp only [Bool.or_eq_true, hp, Bool.false_eq_true, false_or] at h1
      unfold slotOf
      cases hod : o.dst with
      | none => rfl
      | some d =>
        rw [hod] at h1
        exact hcall d (by simpa using h1) x x'

def obls (P : Program) (lops : List Oper) (an : List (List Nat)) (all : List St) (wr : Nat → Nat → Prop) (w0 : World) (af : (Nat → Par) → Act) (shape : Nat → Par → Value) (R : Nat → (Nat → Par) → (Nat → Prop) → World → Prop) : List St → Prop
  | [] => True
  | s :: t => Obl P lops an all wr w0 af shape R s ∧ obls P lops an all wr w0 af shape R t
/-- What a fact owes: it stands as long as its memory does; it depends on few choices. -/
def Owes (R : Nat → (Nat → Par) → (Nat → Prop) → World → Prop) (s : St) : Prop :=
  (∀ x F w w', R s.i x F w → w.heap.size ≤ w'.heap.size → (∀ k, F k → w'.heap[k]? = w.heap[k]?) → R s.i x F w') ∧ (∀ x x' F w, (∀ j, j = s.i ∨ j ∈ s.dep → x j = x' j) → R s.i x F w → R s.i x' F w)
def owes (R : Nat → (Nat → Par) → (Nat → Prop) → World → Prop) : List St → Prop
  | [] => True
  | s :: t => Owes R s ∧ owes R t
def lives (all : List St) (R : Nat → (Nat → Par) → (Nat → Prop) → World → Prop) (x : Nat → Par) (F : Nat → Nat → Prop) (w : World) : List St → Prop
  | [] => True
  | s :: t => (all.all (fun s' => match s'.tgt with | some j => j != s.i | none => true) = true → R s.i x (F s.i) w) ∧ lives all R x F w t

theorem wp_region_XA {id : Nat} {Q : Exit → Act → World → Prop} {b af : (Nat → Par) → Act} (an : List (List Nat)) (m1 m2 : List Bool) (st : List St) (shape : Nat → Par → Value) (wr : Nat → Nat → Prop) (R : Nat → (Nat → Par) → (Nat → Prop) → World → Prop) (S1 S2 : Nat → Prop)
    (hm : P.follows .mixedOrders = true) (hb : regB .any lops an m1 m2 st = true)
    (hS1 : ∀ k, S1 k → k < w0.heap.size ∧ ∀ i, m1.getD i false = true → Eb an st wr i k) (hS2 : ∀ k, S2 k → k < w0.heap.size ∧ ∀ i, m2.getD i false = true → Eb an st wr i k)
    (hwl : ∀ s ∈ st, ∀ k, wr s.i k → k < w0.heap.size) (hwr : ∀ s ∈ st, ∀ s' ∈ st, s.i ≠ s'.i → ∀ k, wr s.i k → ¬ wr s'.i k)
    (hq1 : ∀ x D, Good S1 w0 D → wpQuiet P lops.toArray (fun w' => ∃ y : Of D, w' = y.val) (fun a' => a' = b x) (takeOps m1 lops) (putH shape x lops st a0))
    (hq2 : ∀ x D, Good S2 w0 D → wpQuiet P lops.toArray (fun w' => ∃ y : Of D, w' = y.val) (fun a' => a' = af x) (takeOps m2 lops) (b x))
    {ds : List Tmp} (hds : slotsB m1 m2 lops ds = true) (hcall : ∀ d ∈ ds, ∀ x x', (af x).tmps.getD d undef = (af x').tmps.getD d undef)
    (hob : obls P lops an st wr w0 af shape R st) (how : owes R st)
    (hfin : ∀ x w F, Kept (fun k => k < w0.heap.size ∧ ∀ s ∈ st, ¬ wr s.i k) w0 w → lives st R x F w st → Aparts st F → Q .normal (af x) w) :
    (Code.region id lops.toArray true).wp P Q a0 w0 := by
  have hk := chk_of hb
  have hok := of_walks hk hS1 hS2 hq1 hq2 hds hcall
  have ob : ∀ (l : List St), obls P lops an st wr w0 af shape R l → ∀ s ∈ l, Obl P lops an st wr w0 af shape R s := fun l => by
    induction l with
    | nil => intro _ s hs; cases hs
    | cons a l ih =>
      intro h s hs
      rcases List.mem_cons.1 hs with rfl | hs
      · exact h.1
      · exact ih h.2 s hs
  have ow : ∀ (l : List St), owes R l → ∀ s ∈ l, Owes R s := fun l => by
    induction l with
    | nil => intro _ s hs; cases hs
    | cons a l ih =>
      intro h s hs
      rcases List.mem_cons.1 hs with rfl | hs
      · exact h.1
      · exact ih h.2 s hs
  have lv : ∀ x w F (l : List St), (∀ s ∈ l, (∀ s' ∈ st, s'.tgt ≠ some s.i) → R s.i x (F s.i) w) → lives st R x F w l := fun x w F l => by
    induction l with
    | nil => intro _; trivial
    | cons a l ih =>
      intro h
      refine ⟨fun hl => h a List.mem_cons_self fun s' hs' ht => ?_, ih fun s hs => h s (List.mem_cons_of_mem _ hs)⟩
      have := List.all_eq_true.1 hl s' hs'
      rw [ht] at this
      simp at this
  refine wp_region_any hm (anyX hk hok (ob st hob) (fun s hs => (ow st how s hs).1) (fun s hs => (ow st how s hs).2) hwl hwr (fun x w F hkept hR hap => hfin x w F hkept (lv x w F st hR) hap) _ _ _ _ (fun _ _ => (none, 0)) (fun _ _ => False) ?_ ?_)
  · have := List.length_filter_le (fun i => !(Array.replicate lops.toArray.size false).getD i true) (List.range lops.length)
    simpa [unl] using this
  · have none : ∀ i, (Array.replicate lops.toArray.size false).getD i false = false := fun i => by
      simp [Array.getD]
    refine ⟨⟨by simp, fun j oj _ h => absurd ((none j).symm.trans h) (by simp)⟩, ⟨rfl, rfl, rfl, Nat.le_refl _, fun _ _ => rfl⟩, fun x _ => ⟨rfl, rfl, fun d => ⟨fun ⟨i, o, _, h, _⟩ => absurd ((none i).symm.trans h) (by simp), fun _ => rfl⟩⟩, fun s _ h => absurd ((none s.i).symm.trans h) (by simp), fun s _ _ _ h => absurd ((none s.i).symm.trans h) (by simp), fun s _ h => absurd ((none s.i).symm.trans h) (by simp)⟩
theorem wp_region_X {id : Nat} {Q : Exit → Act → World → Prop} {b af : (Nat → Par) → Act} (an : List (List Nat)) (m1 m2 : List Bool) (st : List St) (shape : Nat → Par → Value) (wr : Nat → Nat → Prop) (R : Nat → (Nat → Par) → (Nat → Prop) → World → Prop) (S1 S2 : Nat → Prop)
    (hm : P.follows .mixedOrders = true) (hb : regB .any lops an m1 m2 st = true)
    (hS1 : ∀ k, S1 k → k < w0.heap.size ∧ ∀ i, m1.getD i false = true → Eb an st wr i k) (hS2 : ∀ k, S2 k → k < w0.heap.size ∧ ∀ i, m2.getD i false = true → Eb an st wr i k)
    (hwl : ∀ s ∈ st, ∀ k, wr s.i k → k < w0.heap.size) (hwr : ∀ s ∈ st, ∀ s' ∈ st, s.i ≠ s'.i → ∀ k, wr s.i k → ¬ wr s'.i k)
    (hq1 : ∀ x D, Good S1 w0 D → wpQuiet P lops.toArray (fun w' => ∃ y : Of D, w' = y.val) (fun a' => a' = b x) (takeOps m1 lops) (putH shape x lops st a0))
    (hq2 : ∀ x D, Good S2 w0 D → wpQuiet P lops.toArray (fun w' => ∃ y : Of D, w' = y.val) (fun a' => a' = af x) (takeOps m2 lops) (b x))
    {ds : List Tmp} (hds : slotsB m1 m2 lops ds = true) (hcall : ∀ d ∈ ds, ∀ x x', (af x).tmps.getD d undef = (af x').tmps.getD d undef)
    (hob : obls P lops an st wr w0 af shape R st) (how : owes R st)
    (hfin : ∀ x w F, Kept (fun k => k < w0.heap.size ∧ ∀ s ∈ st, ¬ wr s.i k) w0 w → lives st R x F w st → Q .normal (af x) w) :
    (Code.region id lops.toArray true).wp P Q a0 w0 :=
  wp_region_XA an m1 m2 st shape wr R S1 S2 hm hb hS1 hS2 hwl hwr hq1 hq2 hds hcall hob how fun x w F hk hl _ => hfin x w F hk hl
end
end Go.Proofs.Ytidbjidcjmbnlaa
end
section
namespace Go.Proofs.Ytidbjidcjmbnlaa
open Go.RowKit
section
variable {P : Program} {md : Region.Mode} {ops : Array Oper} {S : Nat → Prop} {E : Nat → Bool}
theorem grown_setCell (w : World) (g off : Nat) (v : Value) : w.grownBy (w.setCell ⟨g, off, none⟩ v) (some g) :=
  ⟨rfl, rfl, rfl, by simp, fun k _ hne => Below.heap_setCell w ⟨g, off, none⟩ v k (fun e => hne (by rw [e]))⟩
end
end Go.Proofs.Ytidbjidcjmbnlaa
end
section
namespace Go.Proofs.Ytidbjidcjmbnlaa
open Go Go.RowKit

/-- A slice value owns its cells; its block lies in `F`. -/
def OwnF (w : World) (F : Nat → Prop) (base : Nat) (e : TypeId) (size : Nat) (v : Value) (n : Nat) (xs : List Value) : Prop := w.ownsRow base e size v n xs ∧ ∀ g, v.ownBlock = some g → F g
theorem own_mono {w : World} {base base' : Nat} {e : TypeId} {size : Nat} {v : Value} {n : Nat} {xs : List Value} (h : w.ownsRow base e size v n xs) (hb : base' ≤ base) : w.ownsRow base' e size v n xs := by
  refine ⟨h.1, ?_⟩
  rcases h.2 with hn | ⟨g, cap, cur, e1, h2, rest⟩
  · exact .inl hn
  · exact .inr ⟨g, cap, cur, e1, Nat.le_trans hb h2, rest⟩
theorem OwnF.stab {w w' : World} {F : Nat → Prop} {base : Nat} {e : TypeId} {size n : Nat} {v : Value} {xs : List Value} (h : OwnF w F base e size v n xs) (hk : ∀ k, F k → w'.heap[k]? = w.heap[k]?) : OwnF w' F base e size v n xs := by
  refine ⟨⟨h.1.1, ?_⟩, h.2⟩
  rcases h.1.2 with hn | ⟨g, cap, cur, rfl, hb, hg, rest⟩
  · exact .inl hn
  · exact .inr ⟨g, cap, cur, rfl, hb, (hk g (h.2 g rfl)).trans hg, rest⟩
theorem OwnF.of {w w1 : World} {base : Nat} {e : TypeId} {size n : Nat} {v : Value} {xs : List Value} (h : w.ownsRow base e size v n xs) (hb : w1.heap.size ≤ base) : OwnF w (fun k => w1.heap.size ≤ k ∧ k < w.heap.size) w1.heap.size e size v n xs :=
  ⟨own_mono h hb, fun g hg => by have := h.lt g hg; omega⟩
theorem OwnF.base {w : World} {F : Nat → Prop} {b b' : Nat} {e : TypeId} {size n : Nat} {v : Value} {xs : List Value} (h : OwnF w F b e size v n xs) (hb : b' ≤ b) : OwnF w F b' e size v n xs := ⟨own_mono h.1 hb, h.2⟩
/-- A pointer to a block that is known whole and lies in `F`. -/
def PtrF (w : World) (F : Nat → Prop) (base : Nat) (A : Option Addr) (t : TypeId) (cs : Array Value) : Prop := ∃ g, A = some ⟨g, 0, none⟩ ∧ base ≤ g ∧ F g ∧ Blk w g t cs
theorem PtrF.stab {w w' : World} {F : Nat → Prop} {base : Nat} {A : Option Addr} {t : TypeId} {cs : Array Value} (h : PtrF w F base A t cs) (hk : ∀ k, F k → w'.heap[k]? = w.heap[k]?) : PtrF w' F base A t cs := by
  obtain ⟨g, h1, h2, h3, h4⟩ := h
  exact ⟨g, h1, h2, h3, (hk g h3).trans h4⟩

theorem hrun_call {P : Program} {o : Oper} {a : Act} {w : World} {K : Value → World → Prop} {g : FuncId} {args : Array Value} (hrun : (execOp a.eval o).run P w = .ok (.enter g args) w) (h : Calls P g args w fun e w'' => ∃ v, e = .returned v ∧ K v w'') : HRun P o a w K := by
  unfold HRun; rw [hrun]; exact h
theorem hrun_value {P : Program} {o : Oper} {a : Act} {w w' : World} {K : Value → World → Prop} {v : Value} (hrun : (execOp a.eval o).run P w = .ok (.value v) w') (h : K v w') : HRun P o a w K := by
  unfold HRun; rw [hrun]; exact h
theorem hrun_skip {P : Program} {o : Oper} {a : Act} {w w' : World} {K : Value → World → Prop} (hrun : (execOp a.eval o).run P w = .ok .skip w') (h : K undef w') : HRun P o a w K := by
  unfold HRun; rw [hrun]; exact h

section
variable {P : Program} {lops : List Oper} {an : List (List Nat)} {m1 m2 : List Bool} {st : List St} {w0 : World} {a0 : Act} {af : (Nat → Par) → Act} {shape : Nat → Par → Value} {wr : Nat → Nat → Prop} {R : Nat → (Nat → Par) → (Nat → Prop) → World → Prop} {s : St} {o : Oper}

/-- A call that leaves what was there alone. -/
theorem obl_call (ho : lops[s.i]? = some o) (hw : ∀ x, Region.wanted o (yielded lops.toArray (af x).tmps) = true) (g : FuncId) (args : (Nat → Par) → Array Value) (hrun : ∀ (x : Nat → Par) (w : World), (execOp (af x).eval o).run P w = .ok (.enter g (args x)) w)
    (hc : ∀ (x : Nat → Par) (w : World) (F : Nat → Nat → Prop), Kept (fun k => k < w0.heap.size ∧ Eb an st wr s.i k) w0 w → (∀ j ∈ s.need, R j x (F j) w) → Calls P g (args x) w fun e w' => ∃ y, e = .returned (shape s.i y) ∧ Below w.heap.size w w' ∧ R s.i (upd x s.i y) (fun k => w.heap.size ≤ k ∧ k < w'.heap.size) w') : Obl P lops an st wr w0 af shape R s := by
  intro x w F hk hn
  refine ⟨o, ho, hw x, hrun_call (hrun x w) ((hc x w F hk fun j hj => (hn j hj).2).mono ?_)⟩
  rintro e w' ⟨y, rfl, hb, hR⟩
  exact ⟨_, rfl, y, _, rfl, ⟨hb.os, hb.tape, hb.output, hb.size, fun k hk => hb.block k hk.1⟩, fun k hk => ⟨hk.2, .inl hk.1⟩, hR⟩

/-- One new block. -/
theorem obl_new (ho : lops[s.i]? = some o) (hw : ∀ x, Region.wanted o (yielded lops.toArray (af x).tmps) = true) (t : TypeId) (cells : (Nat → Par) → Array Value) (y : Nat → Par)
    (hrun : ∀ (x : Nat → Par) (w : World), (execOp (af x).eval o).run P w = .ok (.value (shape s.i (y w.heap.size))) (w.alloc (.cells (cells x) t)))
    (hR : ∀ (x : Nat → Par) (w : World), w0.heap.size ≤ w.heap.size → R s.i (upd x s.i (y w.heap.size)) (fun k => k = w.heap.size) (w.alloc (.cells (cells x) t))) : Obl P lops an st wr w0 af shape R s := by
  intro x w F hk _
  refine ⟨o, ho, hw x, hrun_value (hrun x w) ⟨y w.heap.size, _, rfl, ⟨rfl, rfl, rfl, by simp, fun k hk => heap_alloc_old w _ hk.1⟩, fun k hk => ?_, hR x w hk.size⟩⟩
  subst hk
  exact ⟨by simp, .inl (Nat.le_refl _)⟩

def gP (g : Nat) : Par := fun _ => (some ⟨g, 0, none⟩, 0)
theorem obl_alloc (t : TypeId) (p : Tmp) (z : Value) (ha : isAlloc lops[s.i]? t p = true) (hz : (P.info? t).map (·.zero) = some (some z)) (hsh : ∀ y, shape s.i y = .pointer (y 0).1)
    (hR : ∀ (x : Nat → Par) (F : Nat → Prop) (w : World), PtrF w F w0.heap.size (x s.i 0).1 t z.cells → R s.i x F w) : Obl P lops an st wr w0 af shape R s := by
  cases ho : lops[s.i]? with
  | none => rw [ho] at ha; simp [isAlloc] at ha
  | some o =>
    rw [ho] at ha
    obtain ⟨dst, op, ty, pos, aft, gd⟩ := o
    cases dst with
    | none => simp [isAlloc] at ha
    | some d => cases gd with
      | some x => cases op <;> simp [isAlloc] at ha
      | none => cases op with
        | alloc t' =>
          simp [isAlloc] at ha
          obtain ⟨rfl, rfl⟩ := ha
          refine obl_new ho (fun x => by simp [Region.wanted]) t' (fun _ => z.cells) gP (fun x w => ?_) fun x w hle => hR _ _ _ ?_
          · rw [exec_alloc (P := P) (o := ⟨some d, .alloc t', ty, pos, aft, none⟩) rfl hz _ w, hsh]; rfl
          · rw [upd_same]
            exact ⟨w.heap.size, rfl, hle, rfl, Blk.new _ _ _⟩
        | _ => simp [isAlloc] at ha

/-- The new variable is filled. -/
theorem obl_store (t : TypeId) (p q : Tmp) (j : Nat) (zs : Array Value) (cells : (Nat → Par) → Array Value) (hs : isStore lops[s.i]? t p q = true) (htg : s.tgt = some j) (hnd : j ∈ s.need)
    (hj : ∀ (x : Nat → Par) (F : Nat → Prop) (w : World), R j x F w → PtrF w F w0.heap.size (x j 0).1 t zs) (hp : ∀ x, (af x).tmps.getD p undef = .pointer (x j 0).1) (hq : ∀ x, (af x).tmps.getD q undef = .agg (cells x)) (hi : ∀ x, (P.info? t).map (·.size) = some (cells x).size) (hzs : ∀ x, zs.size = (cells x).size)
    (h1 : ∀ x, (cells x).all (·.oneCell') = true) (hsh : ∀ y, shape s.i y = undef) (hne : j ≠ s.i)
    (hR : ∀ (x : Nat → Par) (F : Nat → Prop) (w : World) (y : Par), PtrF w F w0.heap.size (x j 0).1 t (cells x) → R s.i (upd x s.i y) F w) : Obl P lops an st wr w0 af shape R s := by
  intro x w F hk hn
  cases ho' : lops[s.i]? with
  | none => rw [ho'] at hs; simp [isStore] at hs
  | some o =>
    rw [ho'] at hs
    unfold isStore at hs
    split at hs
    · rename_i t1 p1 x1 ty pos aft heq
      simp only [Bool.and_eq_true, beq_iff_eq] at hs
      obtain ⟨⟨rfl, rfl⟩, rfl⟩ := hs
      have e := Option.some.inj heq
      subst e
      obtain ⟨g, hA, hge, hF, hb⟩ := hj x _ _ (hn j hnd).2
      refine ⟨_, rfl, by simp [Region.wanted], hrun_skip (exec_store (P := P) (o := ⟨none, .store t1 (.tmp p1) (.tmp x1), ty, pos, aft, none⟩) rfl (e := (af x).eval) (w := w) (by show (af x).tmps.getD p1 undef = _; rw [hp x, hA]) (hq x) hb (hi x) (hzs x) (h1 x)) ?_⟩
      refine ⟨fun _ => (none, 0), fun k => k = g, (hsh _).symm, ⟨rfl, rfl, rfl, by simp [World.setRow], fun k hk => ?_⟩, fun k hk => ?_, hR x _ _ _ ⟨g, hA, hge, rfl, blk_setRow hb⟩⟩
      · simp only [World.setRow, Array.getElem?_modify]
        rw [if_neg fun e => hk.2 (.inr (by unfold tgtF; rw [htg]; rw [← e]; exact hF))]
      · subst hk
        exact ⟨by have := hb.lt; simpa [World.setRow] using this, .inr (.inr (by unfold tgtF; rw [htg]; exact hF))⟩
    · cases hs

theorem take_none : ∀ (n : Nat) (l : List Oper), takeOps (List.replicate n false) l = []
  | 0, l => by cases l <;> rfl
  | n + 1, [] => rfl
  | n + 1, _ :: l => take_none n l

/-- No memory that was there is turned. -/
theorem wp_region_L {id : Nat} {Q : Exit → Act → World → Prop} (an : List (List Nat)) (m1 : List Bool) (st : List St) (shape : Nat → Par → Value) (R : Nat → (Nat → Par) → (Nat → Prop) → World → Prop) (bf : Act → (Nat → Par) → Act)
    (hm : P.follows .mixedOrders = true) (hb : regB .any lops an m1 (List.replicate lops.length false) st = true) (hbf : ∀ x, putH shape x lops st a0 = bf a0 x) (ds : List Tmp) (hds : slotsB m1 (List.replicate lops.length false) lops ds = true)
    (hq : ∀ (x : Nat → Par) (D : World → Prop), Good (fun k => k < w0.heap.size) w0 D → wpQuiet P lops.toArray (fun w' => ∃ y : Of D, w' = y.val) (fun a' => a' = af x) (takeOps m1 lops) (bf a0 x))
    (hcall : ∀ d ∈ ds, ∀ (x x' : Nat → Par), (af x).tmps.getD d undef = (af x').tmps.getD d undef)
    (hob : obls P lops an st (fun _ _ => False) w0 af shape R st) (how : owes R st)
    (hfin : ∀ (x : Nat → Par) (w : World) (F : Nat → Nat → Prop), Later w0 w → lives st R x F w st → Q .normal (af x) w) : (Code.region id lops.toArray true).wp P Q a0 w0 := by
  refine wp_region_X (b := af) (af := af) an m1 (List.replicate lops.length false) st shape (fun _ _ => False) R (fun k => k < w0.heap.size) (fun k => k < w0.heap.size) hm hb (fun k hk => ⟨hk, fun i _ s _ h => h.elim⟩) (fun k hk => ⟨hk, fun i _ s _ h => h.elim⟩)
    (fun s _ k h => h.elim) (fun s _ s' _ _ k h => h.elim) (fun x D hD => by rw [hbf]; exact hq x D hD) (fun x D hD => by rw [take_none]; exact wpQuiet_nil rfl) hds hcall hob how fun x w F hk hl => hfin x w F ⟨hk.os, hk.tape, hk.output, hk.size, fun k h => hk.block k ⟨h, fun _ _ h => h⟩⟩ hl

theorem obl_callL (ho : lops[s.i]? = some o) (hw : ∀ x, Region.wanted o (yielded lops.toArray (af x).tmps) = true) (g : FuncId) (args : (Nat → Par) → Array Value) (hrun : ∀ (x : Nat → Par) (w : World), (execOp (af x).eval o).run P w = .ok (.enter g (args x)) w)
    (hc : ∀ (x : Nat → Par) (w : World) (F : Nat → Nat → Prop), Later w0 w → (∀ j ∈ s.need, R j x (F j) w) → Calls P g (args x) w fun e w' => ∃ y, e = .returned (shape s.i y) ∧ Below w.heap.size w w' ∧ R s.i (upd x s.i y) (fun k => w.heap.size ≤ k ∧ k < w'.heap.size) w') : Obl P lops an st (fun _ _ => False) w0 af shape R s :=
  obl_call ho hw g args hrun fun x w F hk hn => hc x w F ⟨hk.os, hk.tape, hk.output, hk.size, fun k h => hk.block k ⟨h, fun _ _ h => h.elim⟩⟩ hn
theorem owe_true (h : ∀ (x : Nat → Par) (F : Nat → Prop) (w : World), R s.i x F w) : Owes R s := ⟨fun _ _ _ _ _ _ _ => h _ _ _, fun _ _ _ _ _ _ => h _ _ _⟩
theorem owe_ptr (j base : Nat) (t : TypeId) (cells : (Nat → Par) → Array Value) (hR : ∀ (x : Nat → Par) (F : Nat → Prop) (w : World), R s.i x F w = PtrF w F base (x j 0).1 t (cells x)) (hj : j = s.i ∨ j ∈ s.dep) (hc : ∀ (x x' : Nat → Par), (∀ j, j = s.i ∨ j ∈ s.dep → x j = x' j) → cells x = cells x') : Owes R s :=
  ⟨fun x F w w' h _ hk => by rw [hR] at *; exact h.stab hk, fun x x' F w hx h => by rw [hR] at *; rw [← hx j hj, ← hc x x' hx]; exact h⟩
theorem owe_fill (b : Nat) (t : TypeId) (cells : (Nat → Par) → Array Value) (hR : ∀ (x : Nat → Par) (F : Nat → Prop) (w : World), R s.i x F w = (F b ∧ Blk w b t (cells x))) (hc : ∀ (x x' : Nat → Par), (∀ j, j = s.i ∨ j ∈ s.dep → x j = x' j) → cells x = cells x') : Owes R s :=
  ⟨fun x F w w' h _ hk => by rw [hR] at *; exact ⟨h.1, (hk b h.1).trans h.2⟩, fun x x' F w hx h => by rw [hR] at *; rw [← hc x x' hx]; exact h⟩

/-! ### Variables that were there are filled -/
def earlyB (lops : List Oper) (an : List (List Nat)) (m1 : List Bool) (early : List Nat) : Bool :=
  early.all fun f => (List.range lops.length).all fun i => !m1.getD i false || (an.getD f []).contains i
theorem early_spec {early : List Nat} (hk : m1.length = lops.length) (h : earlyB lops an m1 early = true) {f i : Nat} (hf : f ∈ early) (hi : m1.getD i false = true) : i ∈ an.getD f [] := by
  have h1 := List.all_eq_true.1 (List.all_eq_true.1 h f hf) i (List.mem_range.2 (by
    rcases Nat.lt_or_ge i m1.length with h | h
    · omega
    · simp [List.getD, List.getElem?_eq_none h] at hi))
  rw [hi] at h1
  simpa using h1
def wrF (fills : List (Nat × Nat)) (i k : Nat) : Prop := (i, k) ∈ fills
def free (fills : List (Nat × Nat)) (k : Nat) : Prop := ∀ p ∈ fills, p.2 ≠ k

theorem wp_region_F {id : Nat} {Q : Exit → Act → World → Prop} {b : (Nat → Par) → Act} (an : List (List Nat)) (m1 m2 : List Bool) (st : List St) (fills : List (Nat × Nat)) (early : List Nat) (shape : Nat → Par → Value) (R : Nat → (Nat → Par) → (Nat → Prop) → World → Prop) (bf : Act → (Nat → Par) → Act)
    (hm : P.follows .mixedOrders = true) (hb : regB .any lops an m1 m2 st = true) (he : earlyB lops an m1 early = true) (hbf : ∀ x, putH shape x lops st a0 = bf a0 x) (ds : List Tmp) (hds : slotsB m1 m2 lops ds = true)
    (hl : ∀ p ∈ fills, p.2 < w0.heap.size) (hd : ∀ p ∈ fills, ∀ q ∈ fills, p.1 ≠ q.1 → p.2 ≠ q.2)
    (hq : ∀ (x : Nat → Par) (D : World → Prop), Good (fun k => k < w0.heap.size ∧ ∀ p ∈ fills, p.2 = k → p.1 ∈ early) w0 D → wpQuiet P lops.toArray (fun w' => ∃ y : Of D, w' = y.val) (fun a' => a' = b x) (takeOps m1 lops) (bf a0 x))
    (hq2 : ∀ (x : Nat → Par) (D : World → Prop), Good (fun k => k < w0.heap.size ∧ free fills k) w0 D → wpQuiet P lops.toArray (fun w' => ∃ y : Of D, w' = y.val) (fun a' => a' = af x) (takeOps m2 lops) (b x))
    (hcall : ∀ d ∈ ds, ∀ (x x' : Nat → Par), (af x).tmps.getD d undef = (af x').tmps.getD d undef)
    (hob : obls P lops an st (wrF fills) w0 af shape R st) (how : owes R st)
    (hfin : ∀ (x : Nat → Par) (w : World) (F : Nat → Nat → Prop), Kept (fun k => k < w0.heap.size ∧ free fills k) w0 w → lives st R x F w st → Q .normal (af x) w) : (Code.region id lops.toArray true).wp P Q a0 w0 := by
  have hk := chk_of hb
  refine wp_region_X (b := b) (af := af) an m1 m2 st shape (wrF fills) R (fun k => k < w0.heap.size ∧ ∀ p ∈ fills, p.2 = k → p.1 ∈ early) (fun k => k < w0.heap.size ∧ free fills k) hm hb ?_ (fun k hk => ⟨hk.1, fun i _ s _ h => absurd rfl (hk.2 _ h)⟩)
    (fun s _ k h => hl _ h) (fun s _ s' _ hne k h h' => hd _ h _ h' hne rfl) (fun x D hD => by rw [hbf]; exact hq x D hD) hq2 hds hcall hob how fun x w F hkk hl => hfin x w F (hkk.weak fun k hk => ⟨hk.1, fun s _ h => hk.2 _ h rfl⟩) hl
  intro k hk'
  exact ⟨hk'.1, fun i hi s _ hw => .inr (early_spec hk.len1 he (hk'.2 _ hw rfl) hi)⟩
/-- A call, in such a region: the memory that no one fills is as it was. -/
theorem obl_callF {fills : List (Nat × Nat)} (ho : lops[s.i]? = some o) (hw : ∀ (x : Nat → Par), Region.wanted o (yielded lops.toArray (af x).tmps) = true) (g : FuncId) (args : (Nat → Par) → Array Value) (hrun : ∀ (x : Nat → Par) (w : World), (execOp (af x).eval o).run P w = .ok (.enter g (args x)) w)
    (hc : ∀ (x : Nat → Par) (w : World) (F : Nat → Nat → Prop), Kept (fun k => k < w0.heap.size ∧ free fills k) w0 w → (∀ j ∈ s.need, R j x (F j) w) → Calls P g (args x) w fun e w' => ∃ y, e = .returned (shape s.i y) ∧ Below w.heap.size w w' ∧ R s.i (upd x s.i y) (fun k => w.heap.size ≤ k ∧ k < w'.heap.size) w') : Obl P lops an st (wrF fills) w0 af shape R s :=
  obl_call ho hw g args hrun fun x w F hk hn => hc x w F (hk.weak fun k hk => ⟨hk.1, fun s' _ h => absurd rfl (hk.2 _ h)⟩) hn
/-- Facts on memory in a class of worlds that keeps a set of blocks. -/
theorem liftS {D : World → Prop} {S : Nat → Prop} {w : World} (hD : Good S w D) {b o : Nat} {v : Value} (h : w.cell? ⟨b, o, none⟩ = some v) (hb : S b) (x : Of D) : x.val.cell? ⟨b, o, none⟩ = some v := lift hD h hb x
end
end Go.Proofs.Ytidbjidcjmbnlaa
end
section
namespace Go.Proofs.Ytidbjidcjmbnlaa
open Go Go.RowKit

section
variable {P : Program} {lops : List Oper} {an : List (List Nat)} {m1 : List Bool} {st : List St} {w0 : World} {a0 : Act} {af : (Nat → Par) → Act} {shape : Nat → Par → Value} {wr : Nat → Nat → Prop} {R : Nat → (Nat → Par) → (Nat → Prop) → World → Prop} {s : St} {o : Oper}
end
end Go.Proofs.Ytidbjidcjmbnlaa
end
section
namespace Go.Proofs.Ytidbjidcjmbnlaa
open Go Go.RowKit
section
variable {P : Program} {md : Region.Mode} {ops : Array Oper} {S : Nat → Prop} {E : Nat → Bool} {w0 : World}
end
end Go.Proofs.Ytidbjidcjmbnlaa
end
section
namespace Go.Proofs.Ytidbjidcjmbnlaa
open Go Go.RowKit

/-- Each operation ahead of `n` has a follower up to `n`. -/
def headB (md : Region.Mode) (ops : Array Oper) (n : Nat) : Bool := (List.range n).all fun i => (List.range (n + 1)).any fun j => decide (i < j) && waitsFor md ops j i
section
variable {P : Program} {md : Region.Mode} {ops : Array Oper} {S : Nat → Prop} {E : Nat → Bool} {w0 : World}
theorem anyR_firstX {Q : Act → World → Prop} {n i : Nat} {oi : Oper} {v : Value} (hi : ops[i]? = some oi) (hsel : ∀ (j : Nat) (o : Oper) cs b, ops[j]? = some o → o.op ≠ .select cs b) (hS : ∀ k, S k → k < w0.heap.size)
    (hE : ∀ j, j ≠ n → E j = true) (hnn : n < ops.size) (hs : headB md ops n = true) :
    ∀ (fuel : Nat) (listed : Array Bool) (a : Act) (w : World), (i < n ∨ listed.getD n false = true) → Closed md ops listed →
      (∀ j oj, ops[j]? = some oj → j ≠ i → listed.getD j true = false → (∀ e ∈ oj.after, Region.binds md e = true → e.on ≠ i) → oi.apart ops oj = true) →
      i ∈ Region.ready md ops listed → Kept S w0 w → QuietAt P ops S w0 oi v a →
      anyR P md ops S E Q fuel (listed.setIfInBounds i true) (a.put oi.dst v) w → anyR P md ops S E Q (fuel + 1) listed a w := by
  intro fuel
  induction fuel with
  | zero =>
    intro listed a w _ _ _ hr hw hy H
    refine ⟨fun h => (by rw [h] at hr; cases hr), fun j hj w1 h1 => ?_⟩
    have hw1 : Kept S w0 w1 := kept_later hS hw h1
    by_cases hji : j = i
    · subst hji; exact opR_quiet hi hS hw1 hy fun w2 h2 => anyR_up H (h1.trans h2)
    · have := ready_mono hj hji
      rw [H.1] at this
      cases this
  | succ fuel ih =>
    intro listed a w hin hcl hfree hr hw hy H
    refine ⟨fun h => (by rw [h] at hr; cases hr), fun j hj w1 h1 => ?_⟩
    have hw1 : Kept S w0 w1 := kept_later hS hw h1
    by_cases hji : j = i
    · subst hji; exact opR_quiet hi hS hw1 hy fun w2 h2 => anyR_up H (h1.trans h2)
    · have hst := H.2 j (ready_mono hj hji) w1 h1
      obtain ⟨hjun, oj, hoj, hall⟩ := mem_ready.1 hj
      have hnot : ∀ e ∈ oj.after, Region.binds md e = true → e.on ≠ i := fun e he hb heq => by
        have h1 := hall e he hb
        have h0 := (mem_ready.1 hr).1
        rw [heq] at h1
        rcases Nat.lt_or_ge i listed.size with h' | h'
        · simp [h'] at h0 h1; rw [h0] at h1; cases h1
        · simp [Array.getElem?_eq_none h'] at h1
      have hEj : E j = true := hE j fun e => by
        subst e
        rcases hin with h | h
        · exact (late_head hcl hs hnn _ i rfl h (mem_ready.1 hr).1).1 hj
        · rw [getD_ff hjun] at h
          cases h
      have h2 := opR_put hoj (hfree j oj hoj hji hjun hnot) (fun cs b => hsel i oi cs b hi) (fun cs b => hsel j oj cs b hoj) hy hst
      have hfree' : ∀ k ok, ops[k]? = some ok → k ≠ i → (listed.setIfInBounds j true).getD k true = false →
          (∀ e ∈ ok.after, Region.binds md e = true → e.on ≠ i) → oi.apart ops ok = true := fun k ok hk hki hun hno => by
        refine hfree k ok hk hki ?_ hno
        by_cases hjk : j = k
        · subst hjk; exact hjun
        · rw [getD_set_ne true hjk] at hun; exact hun
      refine opR_mono (fun a' w' hb h3 => ih (listed.setIfInBounds j true) a' w' (hin.imp id fun h => getD_set_true h) (hcl.set hj) hfree' (ready_mono hr (Ne.symm hji)) (hw1.trans (hb hEj)) h3.1 ?_) h2
      rw [Array.setIfInBounds_comm _ _ hji]
      exact h3.2

def peelX (md : Region.Mode) (ops : Array Oper) (n : Nat) : List Bool → Nat → Array Bool → Array Bool → Bool
  | [], _, listed, after => listed == after
  | true :: m, k, listed, after => (decide (k < n) || listed.getD n false) && (Region.ready md ops listed).contains k && Region.free md ops listed k && peelX md ops n m (k + 1) (listed.setIfInBounds k true) after
  | false :: m, k, listed, after => peelX md ops n m (k + 1) listed after
theorem anyR_peel_goX {Q : Act → World → Prop} {n : Nat} (hE : ∀ j, j ≠ n → E j = true) (hnn : n < ops.size) (hhs : headB md ops n = true) (hs : Region.noSelect ops = true) (hS : ∀ k, S k → k < w0.heap.size)
    {af : Act} {fuel : Nat} {after : Array Bool} {w : World} (hw : Kept S w0 w) :
    ∀ (m : List Bool) (l : List Oper) (k : Nat) (listed : Array Bool) (a : Act), Closed md ops listed → (∀ j, l[j]? = ops[k + j]?) → peelX md ops n m k listed after = true → dstB (takeOps m l) = true →
      (∀ D, Good S w0 D → wpQuiet P ops (cls D) (fun a' => a' = af) (takeOps m l) a) → anyR P md ops S E Q fuel after af w → anyR P md ops S E Q ((takeOps m l).length + fuel) listed a w
  | [], l, k, listed, a, _, _, hp, _, hq, h => by
    have hl : listed = after := by simpa [peelX] using hp
    have ha : a = af := by
      have := hq (Kept S w0) ⟨fun _ h => h, fun _ _ h h' => kept_later hS h h', w0, Kept.refl _ _⟩
      simpa [takeOps, wpQuiet] using this
    subst hl
    subst ha
    simpa [takeOps] using h
  | false :: m, [], k, listed, a, hcl, hl, hp, hd, hq, h => by
    have e2 : takeOps m [] = [] := by cases m with | nil => rfl | cons b m => cases b <;> rfl
    have r := anyR_peel_goX hE hnn hhs hs hS hw m [] (k + 1) listed a hcl (fun j => by have := hl (j + 1); simpa [Nat.add_assoc, Nat.add_comm 1 j] using this) (by simpa [peelX] using hp) (by rw [e2]; rfl) (fun D hD => by rw [e2]; exact hq D hD) h
    rw [e2] at r
    exact r
  | false :: m, o :: l, k, listed, a, hcl, hl, hp, hd, hq, h =>
    anyR_peel_goX hE hnn hhs hs hS hw m l (k + 1) listed a hcl (fun j => by have := hl (j + 1); simpa [Nat.add_assoc, Nat.add_comm 1 j] using this) (by simpa [peelX] using hp) hd hq h
  | true :: m, [], k, listed, a, _, hl, hp, _, _, _ => by
    simp only [peelX, Bool.and_eq_true] at hp
    have hr : k ∈ Region.ready md ops listed := by simpa using hp.1.1.2
    obtain ⟨_, o, ho, _⟩ := mem_ready.1 hr
    have := hl 0
    simp [ho] at this
  | true :: m, o :: l, k, listed, a, hcl, hl, hp, hd, hq, h => by
    have h0 : ops[k]? = some o := by simpa using (hl 0).symm
    simp only [peelX, Bool.and_eq_true, Bool.or_eq_true, decide_eq_true_eq] at hp
    obtain ⟨⟨⟨hkn, hr⟩, hf⟩, hp'⟩ := hp
    have hr' : k ∈ Region.ready md ops listed := by simpa using hr
    simp only [takeOps, dstB, Bool.and_eq_true, List.all_eq_true] at hd
    have step : ∀ D, Good S w0 D → ∃ v, YieldsIn P ops D o v a ∧ wpQuiet P ops (cls D) (fun a' => a' = af) (takeOps m l) (a.put o.dst v) := fun D hD => by
      have := hq D hD
      have hk : qOp P ops (cls D) k (wpQuiet P ops (cls D) (fun a' => a' = af) (takeOps m l)) a := by unfold qOp; simp only [h0]; exact this
      obtain ⟨v, hy, hn⟩ := yieldsIn_of_qOp h0 hk
      rw [cls_eq] at hy
      exact ⟨v, hy, hn⟩
    obtain ⟨v, _, hn0⟩ := step (Kept S w0) ⟨fun _ h => h, fun _ _ h h' => kept_later hS h h', w0, Kept.refl _ _⟩
    have same : ∀ D, Good S w0 D → ∀ u, wpQuiet P ops (cls D) (fun a' => a' = af) (takeOps m l) (a.put o.dst u) → a.put o.dst u = a.put o.dst v := fun D _ u hu => by
      cases ho : o.dst with
      | none => rfl
      | some d =>
        rw [ho] at hu hn0
        have hne : ∀ o' ∈ takeOps m l, o'.dst ≠ some d := fun o' ho' => by
          have := hd.1 o' ho'
          simpa [ho] using this
        exact put_slot ((final_slot _ _ hne hu).symm.trans (final_slot _ _ hne hn0))
    have hqa : QuietAt P ops S w0 o v a := fun D hD => by
      obtain ⟨u, hy, hn⟩ := step D hD
      exact ⟨u, hy, same D hD u hn⟩
    have rest := anyR_peel_goX hE hnn hhs hs hS hw m l (k + 1) (listed.setIfInBounds k true) (a.put o.dst v) (hcl.set hr') (fun j => by have := hl (j + 1); simpa [Nat.add_assoc, Nat.add_comm 1 j] using this) hp' hd.2 (fun D hD => by
      obtain ⟨u, _, hn⟩ := step D hD
      rw [← same D hD u hn]; exact hn) h
    have e : (takeOps (true :: m) (o :: l)).length + fuel = (takeOps m l).length + fuel + 1 := by simp [takeOps]; omega
    rw [e]
    exact anyR_firstX h0 (Region.noSelect_spec hs) hS hE hnn hhs _ listed a w hkn hcl (Region.free_spec h0 hf) hr' hw hqa rest

theorem anyR_peelX {Q : Act → World → Prop} {lops : List Oper} {listed a af w fuel len} (n : Nat) (m : List Bool) (after : Array Bool)
    (hE : ∀ j, j ≠ n → E j = true) (hb : (decide (n < lops.length) && headB md lops.toArray n && Region.noSelect lops.toArray && closedB md lops.toArray listed && peelX md lops.toArray n m 0 listed after && dstB (takeOps m lops)) = true) (hn : len = (takeOps m lops).length + fuel)
    (hS : ∀ k, S k → k < w.heap.size)
    (hq : ∀ D, Good S w D → wpQuiet P lops.toArray (fun w' => ∃ x : Of D, w' = x.val) (fun a' => a' = af) (takeOps m lops) a) (h : anyR P md lops.toArray S E Q fuel after af w) : anyR P md lops.toArray S E Q len listed a w := by
  simp only [Bool.and_eq_true] at hb
  simp only [decide_eq_true_eq] at hb
  obtain ⟨⟨⟨⟨⟨hnn, hhs⟩, hs⟩, hc⟩, hp⟩, hd⟩ := hb
  rw [hn]
  exact anyR_peel_goX hE (by simpa using hnn) hhs hs hS (Kept.refl _ _) m lops 0 listed a (closed_of hc) (by simp) hp hd hq h


end
section
variable {P : Program} {md : Region.Mode} {ops : Array Oper} {S : Nat → Prop} {E : Nat → Bool}
/-- The one operation that can come up is a call; what it does is told by its contract. -/
theorem anyR_callX {Q : Act → World → Prop} {f n : Nat} {listed : Array Bool} {a : Act} {w : World} (i : Nat) (after : Array Bool) (hr : Region.ready md ops listed = [i]) (he : (listed.setIfInBounds i true == after) = true) (hn : n = f + 1)
    {oi : Oper} (h : ops[i]? = some oi) {p : Tmp} (hd : oi.dst = some p) (hw : Region.wanted oi (yielded ops a.tmps) = true) (g : FuncId) (args : Array Value)
    (hrun : ∀ w, (execOp a.eval oi).run P w = .ok (.enter g args) w) (hE : E i = false)
    (hc : ∀ w1, Later w w1 → Calls P g args w1 fun e w2 => ∃ v, e = .returned v ∧ anyR P md ops S E Q f after (a.put (some p) v) w2) : anyR P md ops S E Q n listed a w := by
  subst hn
  refine anyR_one i after hr he fun w1 l1 => ?_
  unfold opR
  simp only [h, hw, if_true, hrun, uponR]
  refine (hc w1 l1).mono ?_
  rintro e w2 ⟨v, rfl, hk⟩
  exact ⟨v, rfl, fun h => absurd (hE.symm.trans h) (by simp), by rw [hd]; exact hk⟩
end
end Go.Proofs.Ytidbjidcjmbnlaa
end
