/-
  The record of things in the rounds of a range over a function; marks among the things; an append inside a fence.
-/
import Derived.Test.YtidbjidcjmbnlaaMemX
import Derived.Test.YtidbjidcjmbnlaaRangeF
import Derived.OwnWalkIn
import Derived.Maps.AppendAt
set_option linter.unusedSimpArgs false
set_option linter.unusedVariables false
namespace Go.Proofs.Ytidbjidcjmbnlaa
open Go Go.RowKit

/-- A thing that lies as it lay when walkers' blocks from B on are turned. -/
def Th.calm (B : Nat) : Th → Prop
  | .row _ _ _ _ _ _ => True
  | .blk _ _ _ => True
  | .raw k _ => k < B
  | .one g _ _ _ => g < B
theorem Th.kept {B : Nat} {W W' : World} {t : Th} {row : Option Nat} (h : t.ok W) (hc : t.calm B) (hg : W.grownBy W' row) (hr : ∀ r, row = some r → B ≤ r ∧ ∃ o : Obj, W.heap[r]? = some o ∧ o.isCells = false) : t.ok W' := by
  refine Th.stab h fun k hk => hg.block k (Th.lt h k hk) fun e => ?_
  obtain ⟨h1, o, h2, h3⟩ := hr k e.symm
  cases t with
  | row base e size v n xs =>
    rcases h.2 with ⟨hv, -⟩ | ⟨g, cap, cur, hv, -, hh, -⟩
    · rw [hv] at hk; simp [Th.fp, optL, Value.ownBlock] at hk
    · rw [hv] at hk
      have : k = g := by simpa [Th.fp, optL, Value.ownBlock] using hk
      subst this
      rw [hh] at h2
      cases h2
      cases h3
  | blk g t cs =>
    obtain rfl : k = g := List.mem_singleton.1 hk
    have hb : W.heap[k]? = some (.cells cs t (0, 0)) := h
    rw [hb] at h2
    cases h2
    cases h3
  | raw g o =>
    obtain rfl : k = g := List.mem_singleton.1 hk
    have : k < B := hc
    omega
  | one g R hl hs =>
    obtain rfl : k = g := List.mem_singleton.1 hk
    have : k < B := hc
    omega
theorem Mem.ownFrom {β : Type} {B : Nat} {w0 : World} {ts : β → List Th} (hB : w0.heap.size ≤ B) (h : ∀ s, ∀ t ∈ ts s, t.calm B) : OwnFrom B (fun s W => Mem w0 (ts s) W) :=
  fun s W W' row hs hg hr => ⟨fun t ht => Th.kept (hs.all t ht) (h s t ht) hg hr, hs.nodup, hs.low, hs.below.trans ⟨hg.os, hg.tape, hg.output, hg.size, fun k hk => hg.block k (by have := hs.size; omega) fun e => by have := (hr k e.symm).1; omega⟩⟩
/-- A mark among the things. -/
def thD (D : Nat) : Th := .raw D (.deferred (some []))
theorem fps_marks (Ds : List Nat) : fps (Ds.map thD) = Ds := by
  induction Ds with
  | nil => rfl
  | cons a l ih => rw [List.map_cons, fps_cons, ih]; rfl
theorem Mem.marks {w0 W : World} {ts : List Th} {Ds : List Nat} (h : Mem w0 ts W) (hs : (Ds.map thD).Sublist ts) : MarksOK w0.heap.size Ds W := by
  have h2 := h.sub hs
  refine ⟨?_, fun D hD => ⟨?_, ?_⟩⟩
  · have := h2.nodup
    rw [fps_marks] at this
    exact this
  · exact h2.low D (by rw [fps_marks]; exact hD)
  · exact h2.all (thD D) (List.mem_map_of_mem hD)
theorem Mem.mark {w0 W : World} {ts : List Th} {D : Nat} (h : Mem w0 ts W) (hD : W.heap[D]? = some (.deferred (some []))) (hn : D ∉ fps ts) (hl : w0.heap.size ≤ D) : Mem w0 (thD D :: ts) W :=
  ⟨fun t ht => by
    rcases List.mem_cons.1 ht with rfl | h1
    · exact hD
    · exact h.all t h1, by rw [fps_cons]; exact List.nodup_cons.2 ⟨hn, h.nodup⟩, fun k hk => by
    rw [fps_cons] at hk
    rcases List.mem_append.1 hk with h1 | h1
    · rw [List.mem_singleton.1 h1]; exact hl
    · exact h.low k h1, h.below⟩
theorem Th.calm_ok {W : World} {t : Th} (h : t.ok W) : t.calm W.heap.size := by
  cases t with
  | row base e size v n xs => trivial
  | blk g t cs => trivial
  | raw g o => exact (Array.getElem?_eq_some_iff.1 h).1
  | one g R hl hs => exact hl _ h
theorem Th.notin {B D : Nat} {W : World} {t : Th} (h : t.ok W) (hc : t.calm B) (hD : W.heap[D]? = some (.deferred (some []))) (hB : B ≤ D) : D ∉ t.fp := fun hk => by
  cases t with
  | row base e size v n xs =>
    rcases h.2 with ⟨hv, -⟩ | ⟨g, cap, cur, hv, -, hh, -⟩
    · rw [hv] at hk; simp [Th.fp, optL, Value.ownBlock] at hk
    · rw [hv] at hk
      have : D = g := by simpa [Th.fp, optL, Value.ownBlock] using hk
      subst this
      rw [hh] at hD
      cases hD
  | blk g t cs =>
    obtain rfl : D = g := List.mem_singleton.1 hk
    have hb : W.heap[D]? = some (.cells cs t (0, 0)) := h
    rw [hb] at hD
    cases hD
  | raw g o =>
    obtain rfl : D = g := List.mem_singleton.1 hk
    have : D < B := hc
    omega
  | one g R hl hs =>
    obtain rfl : D = g := List.mem_singleton.1 hk
    have : D < B := hc
    omega
/-- Behind a range over a function its mark comes into the record. -/
theorem Mem.ranged {w0 W : World} {ts : List Th} {B D : Nat} (h : Mem w0 ts W) (hc : ∀ t ∈ ts, t.calm B) (hD : W.heap[D]? = some (.deferred (some []))) (hB : B ≤ D) (hl : w0.heap.size ≤ B) : Mem w0 (thD D :: ts) W :=
  h.mark hD (fun hk => by
    obtain ⟨t, ht, hk⟩ := List.mem_flatMap.1 hk
    exact Th.notin (h.all t ht) (hc t ht) hD hB hk) (by omega)
/-- A thing of cells. -/
def Th.cell : Th → Prop
  | .row _ _ _ _ _ _ => True
  | .blk _ _ _ => True
  | .raw _ _ => False
  | .one _ _ _ _ => False
/-- Behind the return that shuts the marks. -/
theorem Mem.leave {w0 W W' : World} {ts : List Th} (h : Mem w0 ts W) (hc : ∀ t ∈ ts, t.cell) (hb : Below w0.heap.size W W') (hk : ∀ g t cs, Blk W g t cs → Blk W' g t cs) : Mem w0 ts W' :=
  ⟨fun t ht => Th.stab (h.all t ht) (fun k hm => by
    have h1 := h.all t ht
    have h2 := hc t ht
    cases t with
    | row base e size v n xs =>
      rcases h1.2 with ⟨hv, -⟩ | ⟨g, cap, cur, hv, -, hh, -⟩
      · rw [hv] at hm; simp [Th.fp, optL, Value.ownBlock] at hm
      · rw [hv] at hm
        have : k = g := by simpa [Th.fp, optL, Value.ownBlock] using hm
        subst this
        exact (hk k e cur hh).trans hh.symm
    | blk g t cs =>
      obtain rfl : k = g := List.mem_singleton.1 hm
      have hh : W.heap[k]? = some (.cells cs t (0, 0)) := h1
      exact (hk k t cs hh).trans hh.symm
    | raw g o => exact h2.elim
    | one g R hl hs => exact h2.elim), h.nodup, h.low, h.below.trans hb⟩
/-- Two variables that a call made. -/
theorem Mem.called2 {w0 W W' : World} {ts : List Th} {t1 t2 : TypeId} {c1 c2 : Array Value} (h : Mem w0 ts W) (hb : Below W.heap.size W W') (h1 : Blk W' W.heap.size t1 c1) (h2 : Blk W' (W.heap.size + 1) t2 c2) :
    Mem w0 (.blk (W.heap.size + 1) t2 c2 :: .blk W.heap.size t1 c1 :: ts) W' := by
  have hm : Mem W [.blk (W.heap.size + 1) t2 c2, .blk W.heap.size t1 c1] W' := by
    refine ⟨fun t ht => ?_, ?_, fun k hk => ?_, hb⟩
    · simp only [List.mem_cons, List.not_mem_nil, or_false] at ht
      rcases ht with rfl | rfl
      · exact h2
      · exact h1
    · simp [fps, Th.fp]
    · simp [fps, Th.fp] at hk
      omega
  exact h.joinL hm
theorem keepf_grown {B : Nat} {X W W' : World} {base n size : Nat} {e : TypeId} {v : Value} {xs : List Value} (h : KeepsFrom B X W) (hv : W.ownsRow base e size v n xs) (hg : W.grownBy W' v.ownBlock) : KeepsFrom B X W' :=
  h.trans ⟨hg.size, fun k o _ hk ho => (hg.block k (Array.getElem?_eq_some_iff.1 hk).1 fun e => by
    rcases hv.2 with ⟨hv, -⟩ | ⟨g, cap, cur, hv, -, hh, -⟩
    · rw [hv] at e; cases e
    · rw [hv] at e
      have : k = g := Option.some.inj e
      subst this
      rw [hh] at hk
      cases hk
      cases ho).trans hk⟩
theorem kepts_grown {S : Nat → Prop} {X W W' : World} {row : Option Nat} (h : KeptS S X W) (hg : W.grownBy W' row) (hr : ∀ k, row = some k → ¬ S k) : KeptS S X W' := h.trans (KeptS.of_grown hg hr)
theorem wpListIn_append_own_at {F : Fence} {n : Nat} {P : Program} (w : World) {ops : Array Oper} {rest : List Oper} {o : Oper} {a : Act} {Q : Exit → Act → World → Prop}
    (hg : o.guard = none) (s x : Operand) (t : TypeId) (hop : o.op = Op.call { callee := Callee.builtin Builtin.append, args := #[s, x], argTypes := #[t, t] })
    (base : Nat) (e : TypeId) (i : TypeInfo) (z : Value) (size bytes : Nat) (h1 : P.underlying t = some (.slice e)) (h2 : P.info? e = some i) (h3 : i.zero = some z) (h4 : i.size = size) (h5 : i.bytes = bytes) (h6 : z.cells.size = size) (h7 : 0 < size)
    (v : Value) (k : Nat) (xs : List Value) (hs : a.eval s = v) (hown : w.ownsRow base e size v k xs) (ad : Addr) (m c : Nat) (news : List Value) (hx : a.eval x = .slice (some ad) m c) (hn : news.length = m * size)
    (hc : ∀ j u, news[j]? = some u → w.cell? (ad.add j) = some u) (h1c : ∀ u ∈ news, u.oneCell' = true) (b1 : k + m ≤ maxLen) (b2 : (k + m) * bytes ≤ 140737488355328) (b3 : base ≤ w.heap.size)
    (hK : ∀ v' w', w'.ownsRow base e size v' (k + m) (xs ++ news) → w.grownBy w' v.ownBlock → (v'.ownBlock = v.ownBlock ∨ v'.ownBlock = some w.heap.size) → wpListIn F n P ops Q rest (a.put o.dst v') w') :
    wpListIn F n P ops Q (o :: rest) a w := by
  refine wpListIn_plain hg fun K hK' => ?_
  obtain ⟨v', w', hrun, r1, r2, -, r4⟩ := run_append_own_at (P := P) w base t o.type e i z size bytes h1 h2 h3 h4 h5 h6 h7 v k xs hown ad m c news hn hc h1c b1 b2 b3
  unfold Oper.wpIn
  refine ⟨?_, ?_⟩
  · simp [Oper.about, hop, resolve, Target.leads, Sem.run_pure]
  · rw [Oper.semAt_plain F _ _ (by rw [hop]; intro c hc'; cases hc')]
    simp [execOp, hop, resolve, invoke, builtin, hs, hx, hrun, Result.andThen]
    exact hK' _ _ (hK v' w' r1 r2 r4)
end Go.Proofs.Ytidbjidcjmbnlaa
