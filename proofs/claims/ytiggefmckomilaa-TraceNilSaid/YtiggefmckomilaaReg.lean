/-
  Regions that draw their order, over any program: each operation is met by itself. A HARD operation (a call that makes memory or needs memory that the region has made, an alloc, a store, an append) has a fact that holds from then on, and the memory that the fact is about; all others are QUIET: one value, read off in one walk. Whatever order is drawn, all facts hold at the end.
-/
import Derived.Test.YtiggefmckomilaaRegionStep
namespace Go.Proofs.Ytiggefmckomilaa
open Go Go.RowKit

/-- What a hard operation is free to choose: addresses and capacities. -/
abbrev Par := Nat → Option Addr × Nat
/-- The static side of a hard operation: its number, the hard operation whose memory it takes over, those whose facts it is given, those on whose choices its own fact may depend. -/
structure St where
  i : Nat
  tgt : Option Nat
  need : List Nat
  dep : List Nat

def upd (x : Nat → Par) (i : Nat) (y : Par) : Nat → Par := fun j => if j = i then y else x j
theorem upd_same (x : Nat → Par) (i : Nat) (y : Par) : upd x i y i = y := by simp [upd]
theorem upd_ne (x : Nat → Par) {i j : Nat} (y : Par) (h : j ≠ i) : upd x i y j = x j := by simp [upd, h]

def bEdges (md : Region.Mode) (o : Oper) : List Nat := (o.after.toList.filter (Region.binds md ·)).map (·.on)
def insL (a : Nat) (l : List Nat) : List Nat := if l.contains a then l else a :: l
/-- A table of operations that have come up before each one: each by an edge, or by one of an edge's own. -/
def ancOK (md : Region.Mode) (lops : List Oper) (an : List (List Nat)) : Bool :=
  (List.range an.length).all fun i => (an.getD i []).all fun j => match lops[i]? with
    | some o => (bEdges md o).any fun e => e == j || (decide (e < i) && (an.getD e []).contains j)
    | none => false
def slotOf (a : Act) (o : Oper) : Value := match o.dst with | some d => a.tmps.getD d undef | none => undef
def callB (o : Oper) : Bool := match o.op with | .call _ => true | _ => false

def regB (md : Region.Mode) (lops : List Oper) (an : List (List Nat)) (m1 m2 : List Bool) (st : List St) : Bool :=
  let hl := st.map (·.i)
  let ops := lops.toArray
  let rg := List.range lops.length
  ancOK md lops an && Region.noSelect ops && dstB lops &&
  (rg.all fun i => match lops[i]? with
    | some o => (bEdges md o).all (fun j => decide (j < i)) && (rg.all fun j => match (lops[j]?).bind (·.dst) with
        | some d => !(o.looksAt ops).contains d || ((bEdges md o).contains j && !(m1.getD i false && m2.getD j false))
        | none => true)
    | none => false) &&
  (rg.all fun i => (if m1.getD i false then !m2.getD i false && !hl.contains i else if m2.getD i false then !hl.contains i else hl.contains i)) &&
  (decide (m1.length = lops.length) && decide (m2.length = lops.length)) &&
  (st.all fun s => decide (s.i < lops.length) && (s.need.all fun j => (an.getD s.i []).contains j && hl.contains j && decide (j ≠ s.i) && st.all fun s' => (match s'.tgt with | some t => t != j | none => true) || s'.i == s.i) &&
    (s.dep.all fun j => (an.getD s.i []).contains j && hl.contains j) && (match s.tgt with | some t => s.need.contains t | none => true))

section anc
variable {md : Region.Mode} {lops : List Oper} {an : List (List Nat)}
theorem anc_spec (h : ancOK md lops an = true) (i j : Nat) (hj : j ∈ an.getD i []) : ∃ o, lops[i]? = some o ∧ ∃ e ∈ bEdges md o, e = j ∨ (e < i ∧ j ∈ an.getD e []) := by
  have hi : i < an.length := by
    rcases Nat.lt_or_ge i an.length with h | h
    · exact h
    · simp [List.getD, List.getElem?_eq_none h] at hj
  have h1 := List.all_eq_true.1 (List.all_eq_true.1 h i (List.mem_range.2 hi)) j hj
  split at h1
  · rename_i o ho
    obtain ⟨e, he, h2⟩ := List.any_eq_true.1 h1
    refine ⟨o, ho, e, he, ?_⟩
    simp only [Bool.or_eq_true, beq_iff_eq, Bool.and_eq_true, decide_eq_true_eq] at h2
    rcases h2 with h2 | ⟨h2, h3⟩
    · exact .inl h2
    · exact .inr ⟨h2, by simpa using h3⟩
  · cases h1
theorem bEdges_spec {o : Oper} {j : Nat} : j ∈ bEdges md o ↔ ∃ e ∈ o.after, Region.binds md e = true ∧ e.on = j := by
  unfold bEdges
  simp [List.mem_map, List.mem_filter, and_assoc]
theorem anc_listed {L : Array Bool} (hA : ancOK md lops an = true) (hc : Closed md lops.toArray L) : ∀ (i : Nat) (o : Oper), lops[i]? = some o → (∀ e ∈ bEdges md o, L.getD e false = true) → ∀ j ∈ an.getD i [], L.getD j false = true := by
  intro i
  induction i using Nat.strongRecOn with
  | _ i ih =>
    intro o ho hall j hj
    obtain ⟨o', ho', e, he, h'⟩ := anc_spec hA i j hj
    have : o' = o := Option.some.inj (ho'.symm.trans ho)
    subst this
    have hLe := hall e he
    rcases h' with rfl | ⟨hlt, h'⟩
    · exact hLe
    · obtain ⟨oe, hoe, _⟩ := anc_spec hA e j h'
      refine ih e hlt oe hoe (fun e' he' => ?_) j h'
      obtain ⟨x, hx, hb, hon⟩ := bEdges_spec.1 he'
      have := hc.2 e oe (by simpa using hoe) hLe x hx hb
      rw [hon] at this
      exact this
end anc

/-- The run of a hard operation: a value and a world, or a call that comes back with them. -/
def HRun (P : Program) (o : Oper) (a : Act) (w : World) (K : Value → World → Prop) : Prop :=
  match (execOp a.eval o).run P w with
  | .ok (.value v) w' => K v w'
  | .ok .skip w' => K undef w'
  | .ok (.enter f args) w' => Calls P f args w' fun e w'' => ∃ v, e = .returned v ∧ K v w''
  | _ => False

theorem exec_agree {o : Oper} (hs : ∀ cs b, o.op ≠ .select cs b) {ops : Array Oper} {a b : Act} (h : ∀ t ∈ o.looksAt ops, a.tmps[t]? = b.tmps[t]?) : execOp a.eval o = execOp b.eval o :=
  execOp_congr o hs fun x hx => by
    cases x with
    | tmp t =>
      have := h t (List.mem_append_left _ (List.mem_filterMap.2 ⟨.tmp t, by simpa using hx, rfl⟩))
      simp only [Act.eval, Array.getD_eq_getD_getElem?, this]
    | _ => rfl
theorem wanted_agree {o : Oper} {ops : Array Oper} {a b : Act} (h : ∀ t ∈ o.looksAt ops, a.tmps[t]? = b.tmps[t]?) : Region.wanted o (yielded ops a.tmps) = Region.wanted o (yielded ops b.tmps) := by
  unfold Region.wanted
  cases hg : o.guard with
  | none => rfl
  | some gw =>
    obtain ⟨g, want⟩ := gw
    have hy : yielded ops a.tmps g = yielded ops b.tmps g := by
      unfold yielded
      cases ht : (ops[g]?).bind (·.dst) with
      | none => rfl
      | some t =>
        have := h t (by simp [Oper.looksAt, hg, ht])
        simp [this]
    simp only [hy]

theorem run_value_ne {s : Sem Value} {P : Program} {w w' : World} {f : FuncId} {args : Array Value} : ((do pure (Next.value (← s))) : Sem Next).run P w ≠ .ok (.enter f args) w' := by
  rw [Sem.run_bind]
  cases s.run P w with
  | ok v w1 => simp [Result.andThen]
  | halt x w1 => simp [Result.andThen]
theorem run_skip_ne {s : Sem Unit} {P : Program} {w w' : World} {f : FuncId} {args : Array Value} : ((do s; pure Next.skip) : Sem Next).run P w ≠ .ok (.enter f args) w' := by
  rw [Sem.run_bind]
  cases s.run P w with
  | ok v w1 => simp [Result.andThen]
  | halt x w1 => simp [Result.andThen]


/-! ### The static side, as facts -/
theorem dst_one : ∀ (l : List Oper), dstB l = true → ∀ (i j : Nat) (oi oj : Oper) (d : Tmp), l[i]? = some oi → l[j]? = some oj → oi.dst = some d → oj.dst = some d → i = j
  | [], _, i, _, _, _, _, hi, _, _, _ => by simp at hi
  | o :: l, h, i, j, oi, oj, d, hi, hj, di, dj => by
    simp only [dstB, Bool.and_eq_true, List.all_eq_true] at h
    have far : ∀ (k : Nat) (ok : Oper), l[k]? = some ok → o.dst = some d → ok.dst = some d → False := fun k ok hk h1 h2 => by
      have := h.1 ok (List.mem_of_getElem? hk)
      rw [h1, h2] at this
      simp at this
    cases i with
    | zero => cases j with
      | zero => rfl
      | succ j =>
        have e : o = oi := by simpa using hi
        subst e
        exact absurd dj (fun dj => far j oj (by simpa using hj) di dj)
    | succ i => cases j with
      | zero =>
        have e : o = oj := by simpa using hj
        subst e
        exact absurd di (fun di => far i oi (by simpa using hi) dj di)
      | succ j => exact congrArg (· + 1) (dst_one l h.2 i j oi oj d (by simpa using hi) (by simpa using hj) di dj)

structure Chk (lops : List Oper) (an : List (List Nat)) (m1 m2 : List Bool) (st : List St) : Prop where
  anc : ancOK .any lops an = true
  nosel : ∀ (j : Nat) (o : Oper) cs b, lops[j]? = some o → o.op ≠ .select cs b
  dst : dstB lops = true
  back : ∀ i o, lops[i]? = some o → ∀ e ∈ bEdges .any o, e < i
  reads : ∀ i o j oj d, lops[i]? = some o → lops[j]? = some oj → oj.dst = some d → d ∈ o.looksAt lops.toArray → j ∈ bEdges .any o ∧ ¬ (m1.getD i false = true ∧ m2.getD j false = true)
  kind1 : ∀ i, i < lops.length → m1.getD i false = true → m2.getD i false = false ∧ ∀ s ∈ st, s.i ≠ i
  kind2 : ∀ i, i < lops.length → m2.getD i false = true → m1.getD i false = false ∧ ∀ s ∈ st, s.i ≠ i
  kind3 : ∀ i, i < lops.length → (∀ s ∈ st, s.i ≠ i) → m1.getD i false = true ∨ m2.getD i false = true
  len1 : m1.length = lops.length
  len2 : m2.length = lops.length
  lt : ∀ s ∈ st, s.i < lops.length
  need : ∀ s ∈ st, ∀ j ∈ s.need, j ∈ an.getD s.i [] ∧ (∃ s' ∈ st, s'.i = j) ∧ j ≠ s.i ∧ ∀ s' ∈ st, s'.tgt = some j → s'.i = s.i
  dep : ∀ s ∈ st, ∀ j ∈ s.dep, j ∈ an.getD s.i [] ∧ ∃ s' ∈ st, s'.i = j
  tgt : ∀ s ∈ st, ∀ t, s.tgt = some t → t ∈ s.need
theorem chk_of {lops : List Oper} {an : List (List Nat)} {m1 m2 : List Bool} {st : List St} (h : regB .any lops an m1 m2 st = true) : Chk lops an m1 m2 st := by
  simp only [regB, Bool.and_eq_true] at h
  obtain ⟨⟨⟨⟨⟨⟨h0, h1⟩, h2⟩, h3⟩, h4⟩, h5, h6⟩, h7⟩ := h
  have mem : ∀ i, (st.map (·.i)).contains i = true ↔ ∃ s ∈ st, s.i = i := fun i => by simp
  have mem' : ∀ i, (st.map (·.i)).contains i = false ↔ ∀ s ∈ st, s.i ≠ i := fun i => by simp
  have k3 := List.all_eq_true.1 h3
  have k4 := List.all_eq_true.1 h4
  have k7 := List.all_eq_true.1 h7
  have lt_of : ∀ {i : Nat} {o : Oper}, lops[i]? = some o → i ∈ List.range lops.length := fun ho => List.mem_range.2 (List.getElem?_eq_some_iff.1 ho).1
  refine ⟨h0, fun j o cs b ho => Region.noSelect_spec h1 j o cs b (by simpa using ho), h2, fun i o ho e he => ?_, fun i o j oj d ho hoj hd hm => ?_, fun i hi hm => ?_, fun i hi hm => ?_, fun i hi hm => ?_, of_decide_eq_true h5, of_decide_eq_true h6, fun s hs => ?_, fun s hs j hj => ?_, fun s hs j hj => ?_, fun s hs t ht => ?_⟩
  · have := k3 i (lt_of ho)
    simp only [ho, Bool.and_eq_true] at this
    exact of_decide_eq_true ((List.all_eq_true.1 this.1) e he)
  · have := k3 i (lt_of ho)
    simp only [ho, Bool.and_eq_true] at this
    have := (List.all_eq_true.1 this.2) j (lt_of hoj)
    have e : (lops[j]?).bind (·.dst) = some d := by rw [hoj]; exact hd
    rw [e] at this
    simp only [Bool.or_eq_true, Bool.not_eq_true', Bool.and_eq_true] at this
    rcases this with h | ⟨h, h'⟩
    · simp at h; exact absurd hm h
    · exact ⟨by simpa using h, fun ⟨a, b⟩ => by rw [a, b] at h'; cases h'⟩
  · have := k4 i (List.mem_range.2 hi)
    rw [hm] at this
    simp only [if_true, Bool.and_eq_true, Bool.not_eq_true'] at this
    exact ⟨this.1, (mem' i).1 this.2⟩
  · have := k4 i (List.mem_range.2 hi)
    cases hm1 : m1.getD i false with
    | true =>
      rw [hm1, hm] at this
      simp at this
    | false =>
      rw [hm1, hm] at this
      simp only [if_true, Bool.false_eq_true, if_false, Bool.not_eq_true'] at this
      exact ⟨rfl, (mem' i).1 this⟩
  · have := k4 i (List.mem_range.2 hi)
    cases hm1 : m1.getD i false with
    | true => exact .inl rfl
    | false =>
      cases hm2 : m2.getD i false with
      | true => exact .inr rfl
      | false =>
        rw [hm1, hm2] at this
        simp only [Bool.false_eq_true, if_false] at this
        obtain ⟨s, hs, e⟩ := (mem i).1 this
        exact absurd e (hm s hs)
  · have := k7 s hs
    simp only [Bool.and_eq_true] at this
    exact of_decide_eq_true this.1.1.1
  · have := k7 s hs
    simp only [Bool.and_eq_true] at this
    have := (List.all_eq_true.1 this.1.1.2) j hj
    simp only [Bool.and_eq_true] at this
    refine ⟨by simpa using this.1.1.1, (mem j).1 this.1.1.2, of_decide_eq_true this.1.2, fun s' hs' ht => ?_⟩
    have := (List.all_eq_true.1 this.2) s' hs'
    rw [ht] at this
    simpa using this
  · have := k7 s hs
    simp only [Bool.and_eq_true] at this
    have := (List.all_eq_true.1 this.1.2) j hj
    simp only [Bool.and_eq_true] at this
    exact ⟨by simpa using this.1, (mem j).1 this.2⟩
  · have := k7 s hs
    simp only [Bool.and_eq_true] at this
    have := this.2
    rw [ht] at this
    simpa using this

/-! ### What is asked, and what follows -/
def Eb (an : List (List Nat)) (st : List St) (wr : Nat → Nat → Prop) (i k : Nat) : Prop := ∀ s ∈ st, wr s.i k → s.i = i ∨ i ∈ an.getD s.i []
def tgtF (s : St) (F : Nat → Nat → Prop) (k : Nat) : Prop := match s.tgt with | some t => F t k | none => False
def Holds (a : Act) (o : Oper) (v : Value) : Prop := ∀ d, o.dst = some d → d < a.tmps.size → a.tmps[d]? = some v

structure AfOk (P : Program) (lops : List Oper) (an : List (List Nat)) (st : List St) (wr : Nat → Nat → Prop) (w0 : World) (a0 : Act) (af : (Nat → Par) → Act) (shape : Nat → Par → Value) : Prop where
  size : ∀ x, (af x).tmps.size = a0.tmps.size
  defers : ∀ x, (af x).defers = a0.defers
  out : ∀ x d, (∀ o ∈ lops, o.dst ≠ some d) → (af x).tmps[d]? = a0.tmps[d]?
  hard : ∀ x, ∀ s ∈ st, ∀ o, lops[s.i]? = some o → Holds (af x) o (shape s.i (x s.i))
  quiet : ∀ x i o, lops[i]? = some o → (∀ s ∈ st, s.i ≠ i) → ∀ D, Good (fun k => k < w0.heap.size ∧ Eb an st wr i k) w0 D → ∃ v, Holds (af x) o v ∧ YieldsIn P lops.toArray D o v (af x)
  call : ∀ x x' i o, lops[i]? = some o → (∀ s ∈ st, s.i ≠ i) → (∀ (a : Act) w f args w', (execOp a.eval o).run P w ≠ .ok (.enter f args) w') ∨ slotOf (af x) o = slotOf (af x') o

def Obl (P : Program) (lops : List Oper) (an : List (List Nat)) (st : List St) (wr : Nat → Nat → Prop) (w0 : World) (af : (Nat → Par) → Act) (shape : Nat → Par → Value) (R : Nat → (Nat → Par) → (Nat → Prop) → World → Prop) (s : St) : Prop :=
  ∀ (x : Nat → Par) (w : World) (F : Nat → Nat → Prop), Kept (fun k => k < w0.heap.size ∧ Eb an st wr s.i k) w0 w → (∀ j ∈ s.need, (∀ k, F j k → k < w.heap.size) ∧ R j x (F j) w) →
    ∃ o, lops[s.i]? = some o ∧ Region.wanted o (yielded lops.toArray (af x).tmps) = true ∧ HRun P o (af x) w fun v w' => ∃ y G, v = shape s.i y ∧
      Kept (fun k => k < w.heap.size ∧ ¬ (wr s.i k ∨ tgtF s F k)) w w' ∧ (∀ k, G k → k < w'.heap.size ∧ (w.heap.size ≤ k ∨ wr s.i k ∨ tgtF s F k)) ∧ R s.i (upd x s.i y) G w'
def Live (st : List St) (L : Array Bool) (h : Nat) : Prop := ∀ s ∈ st, s.tgt = some h → L.getD s.i false = false
def Mix (lops : List Oper) (a0 : Act) (b : Act) (L : Array Bool) (a : Act) : Prop :=
  a.defers = a0.defers ∧ a.tmps.size = a0.tmps.size ∧ ∀ d, ((∃ i o, lops[i]? = some o ∧ L.getD i false = true ∧ o.dst = some d) → a.tmps[d]? = b.tmps[d]?) ∧ ((∀ i o, lops[i]? = some o → o.dst = some d → L.getD i false = false) → a.tmps[d]? = a0.tmps[d]?)

structure Inv (lops : List Oper) (st : List St) (wr : Nat → Nat → Prop) (w0 : World) (a0 : Act) (af : (Nat → Par) → Act) (R : Nat → (Nat → Par) → (Nat → Prop) → World → Prop) (c : Nat → Par) (F : Nat → Nat → Prop) (L : Array Bool) (a : Act) (w : World) : Prop where
  closed : Closed .any lops.toArray L
  kept : Kept (fun k => k < w0.heap.size ∧ ∀ s ∈ st, L.getD s.i false = true → ¬ wr s.i k) w0 w
  mix : ∀ x, (∀ s ∈ st, L.getD s.i false = true → x s.i = c s.i) → Mix lops a0 (af x) L a
  foot : ∀ s ∈ st, L.getD s.i false = true → ∀ k, F s.i k → k < w.heap.size ∧ (w0.heap.size ≤ k ∨ ∃ s2 ∈ st, L.getD s2.i false = true ∧ wr s2.i k)
  apart : ∀ s ∈ st, ∀ s' ∈ st, L.getD s.i false = true → L.getD s'.i false = true → s.i ≠ s'.i → Live st L s.i → Live st L s'.i → ∀ k, F s.i k → ¬ F s'.i k
  fact : ∀ s ∈ st, L.getD s.i false = true → Live st L s.i → R s.i c (F s.i) w

def unl (L : Array Bool) (n : Nat) : Nat := ((List.range n).filter fun i => !L.getD i true).length
theorem filter_lt {p q : Nat → Bool} : ∀ (l : List Nat) (i : Nat), i ∈ l → p i = true → q i = false → (∀ j, q j = true → p j = true) → (l.filter q).length < (l.filter p).length
  | [], i, hi, _, _, _ => by cases hi
  | a :: l, i, hi, hp, hq, hle => by
    have le : ∀ (l : List Nat), (l.filter q).length ≤ (l.filter p).length := fun l => by
      induction l with
      | nil => simp
      | cons b l ih =>
        by_cases hb : q b = true
        · simp [hb, hle b hb]; exact ih
        · cases hpb : p b <;> simp [hb, hpb] <;> omega
    rcases List.mem_cons.1 hi with rfl | hi
    · simp [hp, hq]; have := le l; omega
    · have := filter_lt l i hi hp hq hle
      by_cases hb : q a = true
      · simp [hb, hle a hb]; exact this
      · cases hpb : p a <;> simp [hb, hpb] <;> omega
theorem unl_set {L : Array Bool} {n i : Nat} (hi : i < n) (hL : L.getD i true = false) : unl (L.setIfInBounds i true) n < unl L n := by
  have hs : i < L.size := by
    rcases Nat.lt_or_ge i L.size with h | h
    · exact h
    · simp [Array.getElem?_eq_none h] at hL
  refine filter_lt _ i (List.mem_range.2 hi) (by rw [hL]; rfl) (by simp [Array.getD, hs]) (fun j hj => ?_)
  by_cases hij : i = j
  · subst hij; rw [hL]; rfl
  · rw [getD_set_ne true hij] at hj; exact hj
end Go.Proofs.Ytiggefmckomilaa
