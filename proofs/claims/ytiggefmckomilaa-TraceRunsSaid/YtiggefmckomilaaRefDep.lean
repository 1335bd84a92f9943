/-
  Two books are turned in one region that draws its order: what each turn keeps.
  The reference's book: whether a standard comes from another.
  A loop's code, taken out of a function.
  The reference's book: the chain of a test; what depends on a standard.
-/
import Derived.Test.YtiggefmckomilaaTraceNilF
import Derived.Test.YtiggefmckomilaaRefTests
import Derived.Test.YtiggefmckomilaaRunMath
import Derived.Test.YtiggefmckomilaaWords
set_option linter.unusedSimpArgs false
set_option linter.unusedVariables false
namespace Go.Proofs.Ytiggefmckomilaa
open Go Go.RowKit

section
variable {P : Program} {lops : List Oper} {an : List (List Nat)} {st : List St} {w0 : World} {af : (Nat → Par) → Act} {shape : Nat → Par → Value} {wr : Nat → Nat → Prop} {R : Nat → (Nat → Par) → (Nat → Prop) → World → Prop} {s : St} {o : Oper}
/-- As obl_turn, for a call that comes ahead of some of those that turn memory. -/
theorem obl_turnA (ho : lops[s.i]? = some o) (hw : ∀ x, Region.wanted o (yielded lops.toArray (af x).tmps) = true) (g : FuncId) (args : (Nat → Par) → Array Value) (hrun : ∀ (x : Nat → Par) (w : World), (execOp (af x).eval o).run P w = .ok (.enter g (args x)) w)
    (hc : ∀ (x : Nat → Par) (w : World) (F : Nat → Nat → Prop), Kept (fun k => k < w0.heap.size ∧ ∀ j, j ≠ s.i → s.i ∉ an.getD j [] → ¬ wr j k) w0 w → (∀ j ∈ s.need, (∀ k, F j k → k < w.heap.size) ∧ R j x (F j) w) → Calls P g (args x) w fun e w' => ∃ y G, e = .returned (shape s.i y) ∧
      Kept (fun k => k < w.heap.size ∧ ¬ (wr s.i k ∨ tgtF s F k)) w w' ∧ (∀ k, G k → k < w'.heap.size ∧ (w.heap.size ≤ k ∨ wr s.i k ∨ tgtF s F k)) ∧ R s.i (upd x s.i y) G w') : Obl P lops an st wr w0 af shape R s := by
  intro x w F hk hn
  refine ⟨o, ho, hw x, hrun_call (hrun x w) ((hc x w F (hk.weak fun k hk' => ⟨hk'.1, fun s' hs' h => ?_⟩) hn).mono ?_)⟩
  · by_cases e : s'.i = s.i
    · exact .inl e
    · by_cases e2 : s.i ∈ an.getD s'.i []
      · exact .inr e2
      · exact absurd h (hk'.2 _ e e2)
  · rintro e w' ⟨y, G, rfl, h1, h2, h3⟩
    exact ⟨_, rfl, y, G, rfl, h1, h2, h3⟩
/-- A call that turns no old memory. -/
theorem turnN {f : FuncId} {args : Array Value} {V : Value} {ww : World} {S : Nat → Prop} (hc : Calls P f args ww fun e w' => e = .returned V ∧ Below ww.heap.size ww w') :
    Calls P f args ww fun e w' => ∃ (y : Par) (G : Nat → Prop), e = .returned V ∧ Kept (fun k => k < ww.heap.size ∧ ¬ (S k ∨ False)) ww w' ∧ (∀ k, G k → k < w'.heap.size ∧ (ww.heap.size ≤ k ∨ S k ∨ False)) ∧ True :=
  hc.mono fun e w' ⟨he, hb⟩ => ⟨fun _ => (none, 0), fun _ => False, he, ⟨hb.os, hb.tape, hb.output, hb.size, fun k hk => hb.block k hk.1⟩, fun k hk => absurd hk id, trivial⟩
end
/-! ### Blocks as they are -/
def rawsOf (w : World) (ks : List Nat) : List Th := ks.filterMap fun k => (w.heap[k]?).map (Th.raw k)
theorem fps_raws {w : World} : ∀ (ks : List Nat), (∀ k ∈ ks, k < w.heap.size) → fps (rawsOf w ks) = ks
  | [], _ => rfl
  | k :: ks, h => by
    have hk := h k (List.mem_cons_self ..)
    unfold rawsOf
    rw [List.filterMap_cons, Array.getElem?_eq_getElem hk]
    show fps (Th.raw k _ :: rawsOf w ks) = k :: ks
    rw [fps_cons, fps_raws ks fun x hx => h x (List.mem_cons_of_mem _ hx)]
    rfl
theorem raws_ok {w : World} {ks : List Nat} : ∀ t ∈ rawsOf w ks, t.ok w := fun t ht => by
  obtain ⟨k, -, hk⟩ := List.mem_filterMap.1 ht
  obtain ⟨o, ho, rfl⟩ := Option.map_eq_some_iff.1 hk
  exact ho
theorem raws_mem {w : World} {ks : List Nat} {k : Nat} {o : Obj} (h : k ∈ ks) (ho : w.heap[k]? = some o) : Th.raw k o ∈ rawsOf w ks := List.mem_filterMap.2 ⟨k, h, by rw [ho]; rfl⟩
def restK (w0 : World) (p : Nat) (v : Value) (w : World) : List Nat := (List.range w.heap.size).filter fun k => decide (w0.heap.size ≤ k ∧ k ≠ p ∧ k ∉ optL v)
theorem restK_mem {w0 w : World} {p k : Nat} {v : Value} : k ∈ restK w0 p v w ↔ k < w.heap.size ∧ w0.heap.size ≤ k ∧ k ≠ p ∧ k ∉ optL v := by
  unfold restK
  rw [List.mem_filter, List.mem_range, decide_eq_true_eq]
theorem fps_two (w0 : World) (p : Nat) (v v' : Value) (l : List Ent) (ts : List Th) : fps (.blk p 117 #[v'] :: .row w0.heap.size 121 15 v l.length (refRow l) :: ts) = p :: (optL v ++ fps ts) := rfl
theorem rmem_raws {w0 w : World} {l : List Ent} {p : Nat} {v : Value} (h : RMem w0 l p v [] w) : RMem w0 l p v (rawsOf w (restK w0 p v w)) w := by
  refine ⟨h.good, ⟨fun t ht => ?_, ?_, fun k hk => ?_, h.mem.below⟩⟩
  · rcases List.mem_cons.1 ht with rfl | ht
    · exact h.mem.all _ (by simp)
    · rcases List.mem_cons.1 ht with rfl | ht
      · exact h.mem.all _ (by simp)
      · exact raws_ok t ht
  · have hn := h.mem.nodup
    rw [fps_two] at hn ⊢
    rw [fps_raws _ fun k hk => (restK_mem.1 hk).1]
    have hn' : (p :: optL v).Nodup := by simpa [fps] using hn
    have e : p :: (optL v ++ restK w0 p v w) = (p :: optL v) ++ restK w0 p v w := rfl
    rw [e, List.nodup_append]
    refine ⟨hn', List.Pairwise.filter _ List.nodup_range, fun a ha b hb e => ?_⟩
    subst e
    obtain ⟨-, -, h1, h2⟩ := restK_mem.1 hb
    rcases List.mem_cons.1 ha with h3 | h3
    · exact h1 h3
    · exact h2 h3
  · rw [fps_two, fps_raws _ fun k hk => (restK_mem.1 hk).1] at hk
    rcases List.mem_cons.1 hk with rfl | hk
    · exact h.mem.low _ (by rw [fps_two]; simp)
    · rcases List.mem_append.1 hk with hk | hk
      · exact h.mem.low _ (by rw [fps_two]; simp [hk])
      · exact (restK_mem.1 hk).2.1
theorem RMem.bare {w0 w : World} {l : List Ent} {p : Nat} {v : Value} {ts : List Th} (h : RMem w0 l p v ts w) : RMem w0 l p v [] w := by
  refine ⟨h.good, ⟨fun t ht => h.mem.all t ?_, ?_, fun k hk => h.mem.low k ?_, h.mem.below⟩⟩
  · rcases List.mem_cons.1 ht with rfl | ht
    · simp
    · rw [List.mem_singleton.1 ht]; simp
  · have hn := h.mem.nodup
    rw [fps_two] at hn ⊢
    have : (p :: (optL v ++ fps ts)) = (p :: optL v) ++ fps ts := rfl
    rw [this, List.nodup_append] at hn
    simpa [fps] using hn.1
  · rw [fps_two] at hk ⊢
    simp only [fps, List.flatMap_nil, List.append_nil] at hk
    rcases List.mem_cons.1 hk with rfl | hk
    · exact List.mem_cons_self ..
    · exact List.mem_cons_of_mem _ (List.mem_append_left _ hk)
/-- A turn of the reference's book keeps all else. -/
theorem rmem_turn {w0 w w' : World} {l l' : List Ent} {p : Nat} {v v' : Value} (h : RMem w0 l p v [] w) (hv : ∀ k ∈ optL v, k + 1 < w.heap.size) (h' : RMem w0 l' p v' (rawsOf w (restK w0 p v w)) w') :
    Kept (fun k => k < w.heap.size ∧ ¬ (k = p ∨ k ∈ optL v)) w w' ∧ ∀ k ∈ optL v', k ∈ optL v ∨ w.heap.size ≤ k := by
  have hb := h.mem.below
  have hb' := h'.mem.below
  have hraw : ∀ k, k ∈ restK w0 p v w → w'.heap[k]? = w.heap[k]? := fun k hk => by
    have hlt := (restK_mem.1 hk).1
    have := h'.mem.all _ (List.mem_cons_of_mem _ (List.mem_cons_of_mem _ (raws_mem hk (Array.getElem?_eq_getElem hlt))))
    rw [Array.getElem?_eq_getElem hlt]
    exact this
  have hpl := h.mem.low p (by rw [fps_two]; simp)
  have hpw := h.mem.lt p (by rw [fps_two]; simp)
  have hsz : w.heap.size ≤ w'.heap.size := by
    by_cases hpe : w.heap.size - 1 = p
    · have := (Mem.blk_ h'.mem 0 rfl).lt; omega
    have hlast : w.heap.size - 1 ∈ restK w0 p v w := restK_mem.2 ⟨by omega, by omega, hpe, fun hm => by have := hv _ hm; omega⟩
    have h1 := hraw _ hlast
    rw [Array.getElem?_eq_getElem (show w.heap.size - 1 < w.heap.size by omega)] at h1
    have := (Array.getElem?_eq_some_iff.1 h1).1
    omega
  refine ⟨⟨hb'.os.trans hb.os.symm, hb'.tape.trans hb.tape.symm, hb'.output.trans hb.output.symm, hsz, fun k hk => ?_⟩, fun k hk => ?_⟩
  · rcases Nat.lt_or_ge k w0.heap.size with g | g
    · exact (hb'.block k g).trans (hb.block k g).symm
    · exact hraw k (restK_mem.2 ⟨hk.1, g, fun e => hk.2 (.inl e), fun e => hk.2 (.inr e)⟩)
  · rcases Nat.lt_or_ge k w.heap.size with g | g
    · by_cases hm : k ∈ optL v
      · exact .inl hm
      · exfalso
        have hn := h'.mem.nodup
        have hlow := h'.mem.low k (by rw [fps_two]; exact List.mem_cons_of_mem _ (List.mem_append_left _ hk))
        rw [fps_two, fps_raws _ fun k hk => (restK_mem.1 hk).1] at hn
        rw [List.nodup_cons] at hn
        have hne : k ≠ p := fun e => hn.1 (List.mem_append_left _ (e ▸ hk))
        rw [List.nodup_append] at hn
        exact hn.2.2.2 k hk k (restK_mem.2 ⟨g, hlow, hne, hm⟩) rfl
    · exact .inr g

/-! ### What stands of each book, by itself -/
def TB (base : Nat) (l : List Ent) (p : Nat) (F : Nat → Prop) (w : World) : Prop := ∃ L, BookR l p L w ∧ ∀ k ∈ L.all p, F k ∧ base ≤ k
def TR (base : Nat) (l : List Ent) (p : Nat) (F : Nat → Prop) (w : World) : Prop := ∃ v, Blk w p 117 #[v] ∧ w.ownsRow base 121 15 v l.length (refRow l) ∧ p ∉ optL v ∧ GoodB l ∧ ∀ k ∈ p :: optL v, F k ∧ base ≤ k
/-- A fresh copy: its row lies ahead of it. -/
def TC (base : Nat) (l : List Ent) (p : Nat) (F : Nat → Prop) (w : World) : Prop := ∃ v, (∀ k ∈ optL v, k < p) ∧ Blk w p 117 #[v] ∧ w.ownsRow base 121 15 v l.length (refRow l) ∧ p ∉ optL v ∧ GoodB l ∧ ∀ k ∈ p :: optL v, F k ∧ base ≤ k
theorem TC.stab {base p : Nat} {l : List Ent} {F : Nat → Prop} {w w' : World} (h : TC base l p F w) (hk : ∀ k, F k → w'.heap[k]? = w.heap[k]?) : TC base l p F w' := by
  obtain ⟨v, h0, h1, h2, h3, h4, h5⟩ := h
  exact ⟨v, h0, (hk p (h5 p (List.mem_cons_self ..)).1).trans h1, own_stabT h2 fun g hg => hk g (h5 g (List.mem_cons_of_mem _ (optL_mem hg))).1, h3, h4, h5⟩
theorem TB.stab {base p : Nat} {l : List Ent} {F : Nat → Prop} {w w' : World} (h : TB base l p F w) (hk : ∀ k, F k → w'.heap[k]? = w.heap[k]?) : TB base l p F w' := by
  obtain ⟨L, h1, h2⟩ := h
  exact ⟨L, BookR.stab h1 fun k hm => hk k (h2 k hm).1, h2⟩
theorem TR.stab {base p : Nat} {l : List Ent} {F : Nat → Prop} {w w' : World} (h : TR base l p F w) (hk : ∀ k, F k → w'.heap[k]? = w.heap[k]?) : TR base l p F w' := by
  obtain ⟨v, h1, h2, h3, h4, h5⟩ := h
  exact ⟨v, (hk p (h5 p (List.mem_cons_self ..)).1).trans h1, own_stabT h2 fun g hg => hk g (h5 g (List.mem_cons_of_mem _ (optL_mem hg))).1, h3, h4, h5⟩
theorem RMem.tr {w0 w : World} {l : List Ent} {p : Nat} {v : Value} {ts : List Th} (h : RMem w0 l p v ts w) : p ∉ optL v ∧ ∀ k ∈ p :: optL v, w0.heap.size ≤ k ∧ k < w.heap.size := by
  have hn := h.mem.nodup
  rw [fps_two, List.nodup_cons] at hn
  refine ⟨fun hm => hn.1 (List.mem_append_left _ hm), fun k hk => ?_⟩
  have hm : k ∈ fps (.blk p 117 #[v] :: .row w0.heap.size 121 15 v l.length (refRow l) :: ts) := by
    rw [fps_two]
    rcases List.mem_cons.1 hk with rfl | hk
    · exact List.mem_cons_self ..
    · exact List.mem_cons_of_mem _ (List.mem_append_left _ hk)
  exact ⟨h.mem.low k hm, h.mem.lt k hm⟩
theorem rmem_of {w0 w : World} {l : List Ent} {p : Nat} {v : Value} (hg : GoodB l) (h1 : Blk w p 117 #[v]) (h2 : w.ownsRow w0.heap.size 121 15 v l.length (refRow l)) (h3 : p ∉ optL v) (h5 : ∀ k ∈ p :: optL v, w0.heap.size ≤ k) (hB : Below w0.heap.size w0 w) : RMem w0 l p v [] w := by
  refine ⟨hg, ⟨fun t ht => ?_, ?_, fun k hk => ?_, hB⟩⟩
  · rcases List.mem_cons.1 ht with rfl | ht
    · exact h1
    · rw [List.mem_singleton.1 ht]; exact h2
  · rw [fps_two]
    simp only [fps, List.flatMap_nil, List.append_nil]
    exact List.nodup_cons.2 ⟨h3, optL_nodup v⟩
  · rw [fps_two] at hk
    simp only [fps, List.flatMap_nil, List.append_nil] at hk
    exact h5 k hk
theorem TR.rmem {w0 w : World} {l : List Ent} {p : Nat} {F : Nat → Prop} (h : TR w0.heap.size l p F w) (hB : Below w0.heap.size w0 w) : ∃ v, RMem w0 l p v [] w ∧ ∀ k ∈ p :: optL v, F k := by
  obtain ⟨v, h1, h2, h3, h4, h5⟩ := h
  exact ⟨v, rmem_of h4 h1 h2 h3 (fun k hk => (h5 k hk).2) hB, fun k hk => (h5 k hk).1⟩

/-! ### The two of them in one region -/
def wrS (i j : Nat) (A B : Nat → Prop) (q k : Nat) : Prop := (q = i ∧ A k) ∨ (q = j ∧ B k)
theorem wrS_low {i j n : Nat} {A B : Nat → Prop} (hA : ∀ k, A k → k < n) (hB : ∀ k, B k → k < n) : ∀ q k, wrS i j A B q k → k < n := fun q k h => by
  rcases h with ⟨-, h⟩ | ⟨-, h⟩
  · exact hA k h
  · exact hB k h
theorem wrS_ap {i j : Nat} {A B : Nat → Prop} (h : ∀ k, A k → ¬ B k) : ∀ q q', q ≠ q' → ∀ k, wrS i j A B q k → ¬ wrS i j A B q' k := fun q q' hne k h1 h2 => by
  rcases h1 with ⟨rfl, h1⟩ | ⟨rfl, h1⟩ <;> rcases h2 with ⟨h3, h2⟩ | ⟨h3, h2⟩
  · exact hne h3.symm
  · exact h k h1 h2
  · exact h k h2 h1
  · exact hne h3.symm
theorem wrS_out {i j k : Nat} {A B : Nat → Prop} (hA : ¬ A k) (hB : ¬ B k) : ∀ q, ¬ wrS i j A B q k := fun q h => by
  rcases h with ⟨-, h⟩ | ⟨-, h⟩
  · exact hA h
  · exact hB h
section
variable {w0 W ww : World} {l : List Ent} {p pr i j : Nat} {L : Lay} {v : Value} {A B : Nat → Prop}
theorem keepB (hb : BookR l p L W) (hL : Kept (fun k => k < W.heap.size ∧ ∀ q, q ≠ i → ¬ wrS i j A B q k) W ww) (hA : ∀ k ∈ L.all p, A k) (hAB : ∀ k, A k → ¬ B k) : BookR l p L ww :=
  BookR.stab hb fun k hk => hL.block k ⟨BookR.lt hb k hk, fun q hq h => by
    rcases h with ⟨rfl, -⟩ | ⟨rfl, h⟩
    · exact hq rfl
    · exact hAB k (hA k hk) h⟩
theorem belowS {S : Nat → Prop} (hB : Below w0.heap.size w0 W) (hL : Kept S W ww) (h : ∀ k, k < w0.heap.size → S k) : Below w0.heap.size w0 ww :=
  hB.trans ⟨hL.os, hL.tape, hL.output, hL.size, fun k hk => hL.block k (h k hk)⟩
theorem keepR (hr : RMem w0 l pr v [] W) (hL : Kept (fun k => k < W.heap.size ∧ ∀ q, q ≠ j → ¬ wrS i j A B q k) W ww) (hB : ∀ k ∈ pr :: optL v, B k) (hAB : ∀ k, A k → ¬ B k) (hlo : ∀ k, A k → w0.heap.size ≤ k) (hlo2 : ∀ k, B k → w0.heap.size ≤ k) : RMem w0 l pr v [] ww := by
  have hs := hr.tr
  have hk : ∀ k ∈ pr :: optL v, ww.heap[k]? = W.heap[k]? := fun k hk => hL.block k ⟨(hs.2 k hk).2, fun q hq h => by
    rcases h with ⟨-, h⟩ | ⟨rfl, -⟩
    · exact hAB k h (hB k hk)
    · exact hq rfl⟩
  have hbw : Below w0.heap.size w0 ww := belowS hr.mem.below hL fun k hk => ⟨Nat.lt_of_lt_of_le hk hr.mem.size, fun q hq h => by
    rcases h with ⟨-, h⟩ | ⟨-, h⟩
    · have := hlo k h; omega
    · have := hlo2 k h; omega⟩
  exact rmem_of hr.good ((hk pr (List.mem_cons_self ..)).trans (Mem.blk_ hr.mem 0 rfl)) (own_stabT (Mem.row_ hr.mem 1 rfl) fun g hg => hk g (List.mem_cons_of_mem _ (optL_mem hg))) hs.1 (fun k hk => (hs.2 k hk).1) hbw
theorem turnB {P : Program} {f : FuncId} {args : Array Value} {V : Value} {base : Nat} {S : Nat → Prop} {x : Ent} {ev : Int} (hc : Calls P f args ww fun e w' => e = .returned V ∧ EntPost l p L ww x ev w') (hlo : ∀ k ∈ L.all p, base ≤ k) (hbs : base ≤ ww.heap.size) (hS : ∀ k ∈ L.all p, S k) :
    Calls P f args ww fun e w' => ∃ (y : Par) (G : Nat → Prop), e = .returned V ∧ Kept (fun k => k < ww.heap.size ∧ ¬ (S k ∨ False)) ww w' ∧ (∀ k, G k → k < w'.heap.size ∧ (ww.heap.size ≤ k ∨ S k ∨ False)) ∧ TB base (if ev = 0 then x :: l else l) p G w' :=
  hc.mono fun e w' ⟨he, L', hb, hs⟩ => by
    refine ⟨fun _ => (none, 0), fun k => k ∈ L'.all p, he, ⟨hs.kept.os, hs.kept.tape, hs.kept.output, hs.kept.size, fun k hk => hs.kept.block k ⟨hk.1, fun hm => hk.2 (.inl (hS k hm))⟩⟩, fun k hk => ⟨BookR.lt hb k hk, ?_⟩, L', hb, fun k hk => ⟨hk, ?_⟩⟩
    · rcases hs.new k hk with h | h
      · exact .inr (.inl (hS k h))
      · exact .inl h
    · rcases hs.new k hk with h | h
      · exact hlo k h
      · omega
theorem turnR2 {P : Program} {f : FuncId} {args : Array Value} {V : Value} {S : Nat → Prop} {l' : List Ent} (hr : RMem w0 l pr v [] ww) (hp : ∀ k ∈ optL v, k + 1 < ww.heap.size) (hc : ∀ ts, RMem w0 l pr v ts ww → Calls P f args ww fun e w' => e = .returned V ∧ ∃ v', RMem w0 l' pr v' ts w') (hS : ∀ k ∈ pr :: optL v, S k) :
    Calls P f args ww fun e w' => ∃ (y : Par) (G : Nat → Prop), e = .returned V ∧ Kept (fun k => k < ww.heap.size ∧ ¬ (S k ∨ False)) ww w' ∧ (∀ k, G k → k < w'.heap.size ∧ (ww.heap.size ≤ k ∨ S k ∨ False)) ∧ TR w0.heap.size l' pr G w' :=
  (hc _ (rmem_raws hr)).mono fun e w' ⟨he, v', h'⟩ => by
    obtain ⟨hk, hn⟩ := rmem_turn hr hp h'
    have ht := h'.tr
    refine ⟨fun _ => (none, 0), fun k => k ∈ pr :: optL v', he, ⟨hk.os, hk.tape, hk.output, hk.size, fun k hq => hk.block k ⟨hq.1, fun hm => hq.2 (.inl (hS k (by rcases hm with rfl | hm; exact List.mem_cons_self ..; exact List.mem_cons_of_mem _ hm)))⟩⟩, fun k hq => ⟨(ht.2 k hq).2, ?_⟩, v', Mem.blk_ h'.mem 0 rfl, Mem.row_ h'.mem 1 rfl, ht.1, h'.good, fun k hq => ⟨hq, (ht.2 k hq).1⟩⟩
    rcases List.mem_cons.1 hq with rfl | hq
    · exact .inr (.inl (hS _ (List.mem_cons_self ..)))
    · rcases hn k hq with h | h
      · exact .inr (.inl (hS k (List.mem_cons_of_mem _ h)))
      · exact .inl h
theorem turnR {P : Program} {f : FuncId} {args : Array Value} {V : Value} {S : Nat → Prop} {l' : List Ent} (hr : RMem w0 l pr v [] ww) (hp : ∀ k ∈ pr :: optL v, k + 1 < ww.heap.size) (hc : ∀ ts, RMem w0 l pr v ts ww → Calls P f args ww fun e w' => e = .returned V ∧ ∃ v', RMem w0 l' pr v' ts w') (hS : ∀ k ∈ pr :: optL v, S k) :
    Calls P f args ww fun e w' => ∃ (y : Par) (G : Nat → Prop), e = .returned V ∧ Kept (fun k => k < ww.heap.size ∧ ¬ (S k ∨ False)) ww w' ∧ (∀ k, G k → k < w'.heap.size ∧ (ww.heap.size ≤ k ∨ S k ∨ False)) ∧ TR w0.heap.size l' pr G w' := turnR2 hr (fun k hk => hp k (List.mem_cons_of_mem _ hk)) hc hS
/-- Both books, side by side again. -/
theorem join_BR {l' : List Ent} {F1 F2 : Nat → Prop} (hB : Below w0.heap.size w0 ww) (h1 : TB w0.heap.size l p F1 ww) (h2 : TR w0.heap.size l' pr F2 ww) (hap : ∀ k, F1 k → ¬ F2 k) : ∃ L' v', RMem w0 l' pr v' [.book l p L'] ww := by
  obtain ⟨L', hb, hl⟩ := h1
  obtain ⟨v', hr, hf⟩ := h2.rmem hB
  refine ⟨L', v', hr.good, ⟨fun t ht => ?_, ?_, fun k hk => ?_, hB⟩⟩
  · rcases List.mem_cons.1 ht with rfl | ht
    · exact hr.mem.all _ (by simp)
    · rcases List.mem_cons.1 ht with rfl | ht
      · exact hr.mem.all _ (by simp)
      · rw [List.mem_singleton.1 ht]; exact hb
  · have hn := hr.mem.nodup
    rw [fps_two] at hn ⊢
    simp only [fps, List.flatMap_nil, List.append_nil, List.flatMap_cons] at hn ⊢
    have e : pr :: (optL v' ++ Th.fp (.book l p L')) = (pr :: optL v') ++ L'.all p := rfl
    rw [e, List.nodup_append]
    exact ⟨hn, BookR.nodup hb, fun a ha b hb' e => by subst e; exact hap a (hl a hb').1 (hf a ha)⟩
  · rw [fps_two] at hk
    simp only [fps, List.flatMap_nil, List.append_nil, List.flatMap_cons] at hk
    rcases List.mem_cons.1 hk with rfl | hk
    · exact (hr.tr.2 _ (List.mem_cons_self ..)).1
    · rcases List.mem_append.1 hk with hk | hk
      · exact (hr.tr.2 _ (List.mem_cons_of_mem _ hk)).1
      · exact (hl k hk).2
/-- What is known of both, apart. -/
theorem RMem.apartB (h : RMem w0 l pr v [.book l p L] ww) : RMem w0 l pr v [] ww ∧ BookR l p L ww ∧ (∀ k ∈ L.all p, w0.heap.size ≤ k) ∧ ∀ k ∈ L.all p, ¬ k ∈ pr :: optL v := by
  have hn := h.mem.nodup
  rw [fps_two] at hn
  simp only [fps, List.flatMap_nil, List.append_nil, List.flatMap_cons] at hn
  have e : pr :: (optL v ++ Th.fp (.book l p L)) = (pr :: optL v) ++ L.all p := rfl
  rw [e, List.nodup_append] at hn
  refine ⟨h.bare, Mem.book_ h.mem 2 rfl, fun k hk => h.mem.low k ?_, fun k hk hm => hn.2.2 k hm k hk rfl⟩
  rw [fps_two]
  simp only [fps, List.flatMap_nil, List.append_nil, List.flatMap_cons]
  exact List.mem_cons_of_mem _ (List.mem_append_right _ hk)
end
end Go.Proofs.Ytiggefmckomilaa
namespace Go.Proofs.Ytiggefmckomilaa
open Go Go.RowKit

set_option maxHeartbeats 2000000 in
set_option maxRecDepth 100000 in
theorem rfrom_any (l : List Ent) (p c : Nat) (A : Option Addr) (n o2 : ByteArray) (w : World) (hb : RefR l p A c w) (hs : ∃ s, stdT l n = some s) :
    Calls Try.prog 96 #[ptrB p, .string n, .string o2] w fun e w' => e = .returned (.bool ((chainT l n).any fun m => decide (m = o2))) ∧ Below w.heap.size w w' := by
  have hcl := chainLen (l := l) (n := n)
  have hl := good_len hb.good
  have hch := rchain_any l p c A n w hb hs
  obtain ⟨C, hC⟩ : ∃ C, chainT l n = C := ⟨_, rfl⟩
  rw [hC] at hcl hch ⊢
  have hCl : (C.length : Int) ≤ 2000 := by omega
  clear hC hb hs
  unfold ptrB at *
  have Hch := hide hch
  clear hch
  go_enter Try.func96, Try.ntmps96
  go_wp2_with fail
  refine Hch.out.mono ?_
  rintro e w2 ⟨v, rfl, hM⟩
  have HM := hide hM
  clear hM Hch
  obtain ⟨Ao, co, rfl⟩ := own_shape2 (Mem.row_ HM.out 0 rfl)
  go_wp2_with fail
  go_loopw [8] (fun i wr => ∃ k : Nat, k ≤ C.length ∧ i = .int .i64 k ∧ (C.take k).any (fun m => decide (m = o2)) = false ∧ Mem w [.row w.heap.size 9 1 (.slice Ao C.length co) C.length (strV C)] wr) (fun i _ => C.length - (intOf i).toNat)
  case atStart => exact ⟨0, Nat.zero_le _, rfl, by rw [List.take_zero]; rfl, HM.out⟩
  case round =>
    obtain ⟨k, hk, rfl, hno, hM⟩ := hrel
    clear HM
    have HM := hide hM
    have Hno := hide hno
    clear hM hno
    by_cases hlt : k < C.length
    · have hlt2 : (k : Int) < C.length := by omega
      obtain ⟨m, hm⟩ : ∃ m, C[k]? = some m := ⟨_, List.getElem?_eq_getElem hlt⟩
      have hnx : (C.take (k + 1)).any (fun m => decide (m = o2)) = decide (m = o2) := by
        obtain ⟨hj, e⟩ := List.getElem?_eq_some_iff.1 hm
        rw [List.take_succ_eq_append_getElem hj, List.any_append, Hno.out, e]
        simp
      have hall : decide (m = o2) = true → C.any (fun m => decide (m = o2)) = true := fun h => List.any_eq_true.2 ⟨m, List.mem_of_getElem? hm, h⟩
      obtain ⟨b, cur, rfl, -, hbk, -, -, hcc⟩ := row_blk (Mem.row_ HM.out 0 rfl) (by omega)
      have y0 := hbk.c k (hcc k _ (by unfold strV; rw [List.getElem?_map, hm]; rfl))
      have lty := hbk.lt
      obtain ⟨o, ho⟩ : ∃ o, decide (m = o2) = o := ⟨_, rfl⟩
      rw [ho] at hnx hall
      have Hnx := hide hnx
      have Hall := hide hall
      clear hnx hall
      have he : (m.toList == o2.toList) = o := by
        subst ho
        by_cases e : m = o2
        · rw [decide_eq_true e, e]
          exact beq_self_eq_true _
        · rw [decide_eq_false e]
          exact toList_bne e
      clear hm hbk hcc ho
      cases o with
      | true =>
        go_wp2
        go_ret
        have hX := Hall.out (by trivial)
        exact ⟨by rw [hX]; rfl, HM.out.below⟩
      | false =>
        go_wp2_with fail
        go_roundw
        case rel => exact ⟨k + 1, hlt, by go_num, Hnx.out, HM.out⟩
        case measure => simp [intOf] <;> omega
    · obtain rfl : k = C.length := by omega
      have hkk : ¬ ((C.length : Int) < C.length) := by omega
      have hno := Hno.out
      rw [List.take_length] at hno
      go_wp2
      go_ret
      exact ⟨rfl, HM.out.below⟩
end Go.Proofs.Ytiggefmckomilaa
namespace Go.Proofs.Ytiggefmckomilaa
open Go Go.RowKit

/-- The loops of a code, in order. -/
def loopsOf : Code → List Code
  | .loop c => .loop c :: loopsOf c
  | .seq a b => loopsOf a ++ loopsOf b
  | .block _ c => loopsOf c
  | .scope c => loopsOf c
  | .cond _ a b => loopsOf a ++ loopsOf b
  | _ => []
end Go.Proofs.Ytiggefmckomilaa
namespace Go.Proofs.Ytiggefmckomilaa
open Go Go.RowKit

set_option maxHeartbeats 4000000 in
set_option maxRecDepth 100000 in
theorem rChain_any (l : List Ent) (p c : Nat) (A : Option Addr) (i : Int) (w : World) (hb : RefR l p A c w) :
    Calls Try.prog 82 #[ptrB p, .int .i64 i] w (ChainPost w (chainA l i)) := by
  have hgood := hb.good
  have hN5 := tests_le hb.good
  have hts := fun W (hW : Below w.heap.size w W) => rtests_any l p c A W (hb.later hW)
  have hch := fun m (hs : ∃ s, stdT l m = some s) W (hW : Below w.heap.size w W) => rchain_any l p c A m W (hb.later hW) hs
  obtain ⟨N, hN⟩ : ∃ N, (testsT l).length = N := ⟨_, rfl⟩
  rw [hN] at hN5 hts
  have hin := fun W => rIn_any i 0 ((N : Int) - 1) W
  have hN2 : (N : Int) ≤ 512 := by omega
  obtain ⟨R, hR⟩ : ∃ R, chainA l i = R := ⟨_, rfl⟩
  rw [hR]
  have hrl : (testsT l).reverse.length = N := by rw [List.length_reverse]; exact hN
  have hil := testInfo_length l
  rw [hN] at hil
  unfold ptrB at *
  have Hts := hide hts
  have Hin := hide hin
  have Hch := hide hch
  clear hts hin hch
  clear hb hN
  cases hi : inR i 0 ((N : Int) - 1) with
  | false =>
    have hRv : R = ([], 4) := by
      rw [← hR]
      unfold chainA
      cases hx : (testInfo l)[i.toNat]? with
      | none => rfl
      | some x =>
        simp only
        have := (List.getElem?_eq_some_iff.1 hx).1
        rw [if_neg]
        intro h0
        rw [inR_iff.2 ⟨h0, by omega⟩] at hi
        cases hi
    subst hRv
    rw [hi] at Hin
    clear hR
    go_enter Try.func82, Try.ntmps82
    go_wp2_with fail
    refine (Hts.out _ (Below.refl _ _)).mono ?_
    rintro e w2 ⟨v, rfl, hM2⟩
    have HM := hide hM2
    clear hM2 Hts
    obtain ⟨At, ct, rfl⟩ := own_shape2 (Mem.row_ HM.out 0 rfl)
    go_wp2_with fail
    refine (Hin.out _).mono ?_
    rintro e w' ⟨rfl, rfl⟩
    go_wp2
    refine bodyPost_ret (v := .tuple #[.slice none 0 0, .int .i64 4]) (by simp [results, Try.results82, go_sem]) rfl ⟨_, rfl, HM.out.below, World.ownsRow_nil _ _ _ _⟩
  | true =>
    obtain ⟨i0, i1⟩ := inR_iff.1 hi
    rw [hi] at Hin
    obtain ⟨k, rfl⟩ : ∃ k : Nat, i = (k : Int) := ⟨i.toNat, by omega⟩
    have hkN : k < N := by omega
    obtain ⟨t, ht⟩ : ∃ t, (testsT l).reverse[k]? = some t := ⟨_, List.getElem?_eq_getElem (by rw [hrl]; exact hkN)⟩
    have hRv : R = (chainT l t.std, 0) := by
      rw [← hR]
      unfold chainA
      rw [Int.toNat_natCast, info_at hgood ht]
      simp only
      rw [if_pos (by omega)]
    obtain ⟨-, -, -, s, hs, -⟩ := rev_in hgood ht
    have hc := Hch.out t.std ⟨s, hs⟩
    have Hc := hide hc
    subst hRv
    clear hR hs hc hi
    go_enter Try.func82, Try.ntmps82
    go_wp2_with fail
    refine (Hts.out _ (Below.refl _ _)).mono ?_
    rintro e w2 ⟨v, rfl, hM2⟩
    have HM := hide hM2
    clear hM2 Hts
    obtain ⟨At, ct, rfl⟩ := own_shape2 (Mem.row_ HM.out 0 rfl)
    go_wp2_with fail
    refine (Hin.out _).mono ?_
    rintro e w' ⟨rfl, rfl⟩
    obtain ⟨b, cur, hA, -, hbk, -, -, hcc⟩ := row_blk (Mem.row_ HM.out 0 rfl) (by omega)
    have y1 := hbk.c (k * 5 + 1) (hcc (k * 5 + 1) _ (rts_at ht 1 _ rfl))
    have lty := hbk.lt
    have hk2 : (k : Int) < N := by omega
    subst hA
    clear hbk hcc ht
    obtain ⟨tr, tn, tt, tl, th⟩ := t
    simp only at y1 Hc ⊢
    go_wp2_with fail
    refine (Hc.out _ HM.out.below).mono ?_
    rintro e w3 ⟨v, rfl, hM3⟩
    have HB := hide (HM.out.below.trans (Below.mono hM3.below HM.out.size))
    have HO := hide (own_mono (Mem.row_ hM3 0 rfl) HM.out.size)
    clear hM3 HM y1 lty
    generalize chainT l tn = C at *
    go_wp2
    refine bodyPost_ret (v := .tuple #[v, .int .i64 0]) (by simp [results, Try.results82, go_sem]) rfl ⟨_, rfl, HB.out, HO.out⟩

theorem std_len2 {x : Ent} {l : List Ent} (h : kdE x = 2) : (stdsT (x :: l)).length = (stdsT l).length + 1 := by rw [← cnt_define, ← cnt_define, cntE, if_pos h]
theorem std_len3 {x : Ent} {l : List Ent} (h : ¬ kdE x = 2) : (stdsT (x :: l)).length = (stdsT l).length := by rw [← cnt_define, ← cnt_define, cntE, if_neg h, Nat.add_zero]
theorem isD_of {x : Ent} (h : kdE x = 2) : isD x (sdE x).name = true := by unfold isD; rw [h]; simp
set_option maxRecDepth 1000000 in
noncomputable def rdl1C : Code := ((loopsOf ((Try.f83.body).getD .skip))[0]?).getD .skip
set_option maxHeartbeats 8000000 in
set_option maxRecDepth 1000000 in
theorem rdl1 {kc2 kc3 kc4 kc5 kc6 kc7 kc8 kc10 kc12 kc13 kc14 kc15 kc16 kc17 kc18 kc19 kc20 kc21 ku22 ku23 ku24 ku25 ku26 ku27 ku28 ku29 ku30 ku31 ku32 ku33 ku34 ku35 ku36 ku37 ku38 ku39 ku40 ku41 ku42 ku43 ku44 ku45 ku46 ku47 ku48 ku49 ku50 ku51 ku52 ku53 ku54 ku55 ku56 ku57 ku58 ku59 ku60 ku61 ku62 ku63 ku64 ku65 kc66 kc67 kc68 kc69 kc70 kc71 kc72 kc73 kc74 kc75 kc76 kc77 kc78 kc79 kc80 kc81 kc82 kc83 kc84 kc85 kc86 kc87 : Value} (l : List Ent) (p cb : Nat) (A : Option Addr) (o2 : ByteArray) (ts : List Th) (w' : World) (hb : RefR l p A cb w') {Q : Exit → Act → World → Prop} {wr : World} (hM : Mem w' (.row w'.heap.size 9 1 (.slice none 0 0) 0 [] :: ts) wr)
    (hexit : ∀ ⦃kv11 kv22 kv23 kv24 kv25 kv26 kv27 kv28 kv29 kv30 kv31 kv32 kv33 kv34 kv35 kv36 kv37 kv38 kv39 kv40 kv41 kv42 kv43 kv44 kv45 kv46 kv47 kv48 kv49 kv50 kv51 kv52 kv53 kv54 kv55 kv56 kv57 kv58 kv59 kv60 kv61 kv62 kv63 kv64 kv65 : Value⦄ ⦃v : Value⦄ ⦃w2 : World⦄, Mem w' (.row w'.heap.size 9 1 v (depN l o2 (stdsT l).length).length (strV (depN l o2 (stdsT l).length)) :: ts) w2 → Q (.exit 0) ⟨List.toArray (.pointer (some ⟨p, 0, none⟩) :: .string o2 :: kc2 :: kc3 :: kc4 :: kc5 :: kc6 :: kc7 :: kc8 :: v :: kc10 :: kv11 :: kc12 :: kc13 :: kc14 :: kc15 :: kc16 :: kc17 :: kc18 :: kc19 :: kc20 :: kc21 :: kv22 :: kv23 :: kv24 :: kv25 :: kv26 :: kv27 :: kv28 :: kv29 :: kv30 :: kv31 :: kv32 :: kv33 :: kv34 :: kv35 :: kv36 :: kv37 :: kv38 :: kv39 :: kv40 :: kv41 :: kv42 :: kv43 :: kv44 :: kv45 :: kv46 :: kv47 :: kv48 :: kv49 :: kv50 :: kv51 :: kv52 :: kv53 :: kv54 :: kv55 :: kv56 :: kv57 :: kv58 :: kv59 :: kv60 :: kv61 :: kv62 :: kv63 :: kv64 :: kv65 :: kc66 :: kc67 :: kc68 :: kc69 :: kc70 :: kc71 :: kc72 :: kc73 :: kc74 :: kc75 :: kc76 :: kc77 :: kc78 :: kc79 :: kc80 :: kc81 :: kc82 :: kc83 :: kc84 :: kc85 :: kc86 :: kc87 :: []), []⟩ w2) :
    Code.wp Try.prog rdl1C Q ⟨List.toArray (.pointer (some ⟨p, 0, none⟩) :: .string o2 :: kc2 :: kc3 :: kc4 :: kc5 :: kc6 :: kc7 :: kc8 :: .slice none 0 0 :: kc10 :: .int .i64 0 :: kc12 :: kc13 :: kc14 :: kc15 :: kc16 :: kc17 :: kc18 :: kc19 :: kc20 :: kc21 :: ku22 :: ku23 :: ku24 :: ku25 :: ku26 :: ku27 :: ku28 :: ku29 :: ku30 :: ku31 :: ku32 :: ku33 :: ku34 :: ku35 :: ku36 :: ku37 :: ku38 :: ku39 :: ku40 :: ku41 :: ku42 :: ku43 :: ku44 :: ku45 :: ku46 :: ku47 :: ku48 :: ku49 :: ku50 :: ku51 :: ku52 :: ku53 :: ku54 :: ku55 :: ku56 :: ku57 :: ku58 :: ku59 :: ku60 :: ku61 :: ku62 :: ku63 :: ku64 :: ku65 :: kc66 :: kc67 :: kc68 :: kc69 :: kc70 :: kc71 :: kc72 :: kc73 :: kc74 :: kc75 :: kc76 :: kc77 :: kc78 :: kc79 :: kc80 :: kc81 :: kc82 :: kc83 :: kc84 :: kc85 :: kc86 :: kc87 :: []), []⟩ wr := by
  have HX := hide hexit
  clear hexit
  unfold rdl1C
  conv => arg 2; whnf
  have HM := hide hM
  clear hM
  have hgood := hb.good
  have hl := good_len hb.good
  have hl2 : (l.length : Int) ≤ 2000 := by omega
  have hfr := fun m (hs : ∃ s, stdT l m = some s) W (hW : Below w'.heap.size w' W) => rfrom_any l p cb A m o2 W (hb.later hW) hs
  obtain ⟨i0, hii, hz0, hz1, hz2⟩ := info_parts strInfo
  have Hb := hide hb
  have Hfr := hide hfr
  have Hi := hide hii
  have Hz0 := hide hz0
  have Hz1 := hide hz1
  have Hz2 := hide hz2
  have Hgood := hide hgood
  clear hfr hii hz0 hz1 hz2 hgood
  clear hb
  unfold ptrB at Hfr
  go_loopw [9, 11] (fun v i wr => ∃ k : Nat, k ≤ l.length ∧ i = .int .i64 k ∧ Mem w' (.row w'.heap.size 9 1 v (depN l o2 (stdsT (sufL l k)).length).length (strV (depN l o2 (stdsT (sufL l k)).length)) :: ts) wr) (fun _ i _ => l.length - (intOf i).toNat)
  case atStart => exact ⟨0, Nat.zero_le _, rfl, by rw [suf_zero]; exact HM.out⟩
  case round =>
    obtain ⟨k, hk, rfl, hM⟩ := hrel
    clear HM
    have HM := hide hM
    clear hM
    have hb1 := Hb.out.later HM.out.below
    have x0 := hb1.b.c 0 rfl
    have ltx := hb1.b.lt
    by_cases hlt : k < l.length
    · have hlt2 : (k : Int) < l.length := by omega
      obtain ⟨b, off, hA, hbb, hc⟩ := hb1.cells hlt
      have q0 := hc 0 (.int .i64 (kdE (entN l k))) rfl
      have q3 := hc 3 (.string (sdE (entN l k)).name) rfl
      rw [Nat.add_zero] at q0
      have hs := suf_succ hlt
      subst hA
      have hdl := depN_len (l := l) (other := o2) (k := (stdsT (sufL l k)).length)
      have hsl : (stdsT (sufL l k)).length ≤ 2000 := by
        rw [← cnt_define]
        refine Nat.le_trans (cnt_le 2 _) ?_
        unfold sufL
        rw [List.length_drop]
        omega
      by_cases h1 : kdE (entN l k) = 2
      · have hstd := std_hit Hgood.out hlt (isD_of h1)
        have hsuc := depN_succ (l := l) (other := o2) (ord_suf hlt h1)
        have hln := std_len2 (l := sufL l k) h1
        rw [← hs] at hln
        rw [← hln] at hsuc
        have hf := Hfr.out _ ⟨_, hstd⟩
        rw [h1] at q0
        obtain ⟨nm, hnm⟩ : ∃ nm, (sdE (entN l k)).name = nm := ⟨_, rfl⟩
        rw [hnm] at hsuc hf q3
        have HNM := hide hnm
        obtain ⟨bb, hbb2⟩ : ∃ bb, memB (chainT l nm) o2 = bb := ⟨_, rfl⟩
        have hbb3 : ((chainT l nm).any fun m => decide (m = o2)) = bb := hbb2
        rw [hbb2] at hsuc
        rw [hbb3] at hf
        obtain ⟨D, hD⟩ : ∃ D, depN l o2 (stdsT (sufL l k)).length = D := ⟨_, rfl⟩
        rw [hD] at hsuc HM hdl
        have Hf := hide hf
        cases bb with
        | true =>
          rw [if_pos rfl] at hsuc
          have hs2 : strV (depN l o2 (stdsT (sufL l (k + 1))).length) = strV D ++ [.string nm] := by rw [hsuc]; unfold strV; rw [List.map_append]; rfl
          have hs3 : (depN l o2 (stdsT (sufL l (k + 1))).length).length = D.length + 1 := by rw [hsuc, List.length_append]; rfl
          have HS := hide hs2
          have HS3 := hide hs3
          obtain ⟨Q, hQ⟩ : ∃ Q, strV D = Q := ⟨_, rfl⟩
          obtain ⟨M, hM⟩ : ∃ M, D.length = M := ⟨_, rfl⟩
          rw [hQ] at HS HM
          rw [hM] at HS3 HM hdl
          clear hb1 hc hs h1 hstd hsuc hln hf hnm hbb2 hbb3 hD hs2 hs3 hQ hM
          go_wp2_with fail
          refine (Hf.out _ HM.out.below).mono ?_
          rintro e w3 ⟨rfl, hb⟩
          replace HM := hide (HM.out.later hb)
          clear hb
          have hb1 := Hb.out.later HM.out.below
          clear x0 ltx q0 q3 hbb
          have x0 := hb1.b.c 0 rfl
          have ltx := hb1.b.lt
          obtain ⟨b', off', hA', hbb, hc⟩ := hb1.cells hlt
          cases hA'
          have q3 := hc 3 (.string nm) (by show some (Value.string (sdE (entN l k)).name) = _; rw [HNM.out])
          clear hb1 hc
          have hownM := Mem.row_ HM.out 0 rfl
          have hbaseM : w'.heap.size ≤ w3.heap.size := HM.out.size
          go_wp2_with (at_builtin; refine wpList_append_own_at _ rfl (.tmp 54) (.tmp 64) _ rfl w'.heap.size 9 i0 _ 1 16 Try.underlying36 Hi.out Hz0.out Hz1.out Hz2.out rfl (by decide) _ M Q rfl (hownM.alloc _) ⟨w3.heap.size, 0, none⟩ 1 1 [.string nm] rfl rfl ?q1c1 (by intro u hu; simp only [List.mem_cons, List.not_mem_nil, or_false] at hu; rcases hu with rfl <;> rfl) ?q1c3 ?q1c4 ?q1c5 ?_)
          try case q1c1 => exact new_cellsQ w3 _ [.string nm]
          case q1c3 => unfold maxLen; omega
          case q1c4 => omega
          case q1c5 => first | omega | (simp; omega)
          intro o2v w4 hown2 hgr2 _ hat2
          have HMn := HM.out.grow 0 rfl _ hgr2 hown2 hat2
          replace HM := hide HMn
          clear HMn hown2 hgr2 hat2 hownM hbaseM
          go_wp2_with fail
          go_roundw
          case rel => exact ⟨k + 1, hlt, by go_num, by rw [HS.out, HS3.out]; exact HM.out⟩
          case measure => simp [intOf] <;> omega
        | false =>
          rw [if_neg (by decide), List.append_nil] at hsuc
          have HS := hide hsuc
          clear hb1 hc hs h1 hstd hsuc hln hf hnm hbb2 hbb3 hD
          go_wp2_with fail
          refine (Hf.out _ HM.out.below).mono ?_
          rintro e w3 ⟨rfl, hb⟩
          replace HM := hide (HM.out.later hb)
          clear hb
          go_wp2_with fail
          go_roundw
          case rel => exact ⟨k + 1, hlt, by go_num, by rw [HS.out]; exact HM.out⟩
          case measure => simp [intOf] <;> omega
      · have hln := std_len3 (l := sufL l k) h1
        rw [← hs] at hln
        have HS := hide hln
        generalize kdE (entN l k) = kd at *
        clear hb1 hc hs hln q3
        go_wp2_with fail
        go_roundw
        case rel => exact ⟨k + 1, hlt, by go_num, by rw [HS.out]; exact HM.out⟩
        case measure => simp [intOf] <;> omega
    · obtain rfl : k = l.length := by omega
      have hkk : ¬ ((l.length : Int) < l.length) := by omega
      rw [suf_all] at HM
      clear hb1
      go_wp2_with fail
      exact HX.out HM.out

theorem dep_inT {l : List Ent} {x : ByteArray} {k : Nat} {t : Tst} (hg : GoodB l) (ht : (testsT l).reverse[k]? = some t) : inT l (depN l x (stdsT l).length) k = memB (chainT l t.std) x := by
  unfold inT
  rw [info_at hg ht]
  exact depN_mem
set_option maxRecDepth 1000000 in
noncomputable def rdl2C : Code := ((loopsOf ((Try.f83.body).getD .skip))[1]?).getD .skip
set_option maxHeartbeats 8000000 in
set_option maxRecDepth 1000000 in
theorem rdl2 {kc2 kc3 kc4 kc5 kc6 kc7 kc8 kc9 kc11 kc14 kc15 kc16 kc17 kc18 kc19 kc20 kc21 kc22 kc23 kc24 kc25 kc26 kc27 kc28 kc29 kc30 kc31 kc32 kc33 kc34 kc35 kc36 kc37 kc38 kc39 kc40 kc41 kc42 kc43 kc44 kc45 kc46 kc47 kc48 kc49 kc50 kc51 kc52 kc53 kc54 kc55 kc56 kc57 kc58 kc59 kc60 kc61 kc62 kc63 kc64 kc65 kc66 kc67 ku68 ku69 ku70 ku71 ku72 ku73 ku74 ku75 ku76 ku77 ku78 ku79 ku80 ku81 ku82 ku83 ku84 ku85 kc86 kc87 : Value} (l : List Ent) (p cb : Nat) (A : Option Addr) (o2 : ByteArray) (At : Option Addr) (ct N : Nat) (ts : List Th) (w' : World) (hb : RefR l p A cb w') (hN : (testsT l).length = N) {Q : Exit → Act → World → Prop} {wr : World} (hM : Mem w' (.row w'.heap.size 3 1 (.slice none 0 0) 0 [] :: .row w'.heap.size 87 5 (.slice At N ct) N (rtsRow l) :: ts) wr)
    (hexit : ∀ ⦃kv13 kv68 kv69 kv70 kv71 kv72 kv73 kv74 kv75 kv76 kv77 kv78 kv79 kv80 kv81 kv82 kv83 kv84 kv85 : Value⦄ ⦃v : Value⦄ ⦃w2 : World⦄, Mem w' (.row w'.heap.size 3 1 v (depT l (depN l o2 (stdsT l).length) N).length (natV (depT l (depN l o2 (stdsT l).length) N)) :: .row w'.heap.size 87 5 (.slice At N ct) N (rtsRow l) :: ts) w2 → Q (.exit 2) ⟨List.toArray (.pointer (some ⟨p, 0, none⟩) :: .string o2 :: kc2 :: kc3 :: kc4 :: kc5 :: kc6 :: kc7 :: kc8 :: kc9 :: v :: kc11 :: .slice At N ct :: kv13 :: kc14 :: kc15 :: kc16 :: kc17 :: kc18 :: kc19 :: kc20 :: kc21 :: kc22 :: kc23 :: kc24 :: kc25 :: kc26 :: kc27 :: kc28 :: kc29 :: kc30 :: kc31 :: kc32 :: kc33 :: kc34 :: kc35 :: kc36 :: kc37 :: kc38 :: kc39 :: kc40 :: kc41 :: kc42 :: kc43 :: kc44 :: kc45 :: kc46 :: kc47 :: kc48 :: kc49 :: kc50 :: kc51 :: kc52 :: kc53 :: kc54 :: kc55 :: kc56 :: kc57 :: kc58 :: kc59 :: kc60 :: kc61 :: kc62 :: kc63 :: kc64 :: kc65 :: kc66 :: kc67 :: kv68 :: kv69 :: kv70 :: kv71 :: kv72 :: kv73 :: kv74 :: kv75 :: kv76 :: kv77 :: kv78 :: kv79 :: kv80 :: kv81 :: kv82 :: kv83 :: kv84 :: kv85 :: kc86 :: kc87 :: []), []⟩ w2) :
    Code.wp Try.prog rdl2C Q ⟨List.toArray (.pointer (some ⟨p, 0, none⟩) :: .string o2 :: kc2 :: kc3 :: kc4 :: kc5 :: kc6 :: kc7 :: kc8 :: kc9 :: .slice none 0 0 :: kc11 :: .slice At N ct :: .int .i64 0 :: kc14 :: kc15 :: kc16 :: kc17 :: kc18 :: kc19 :: kc20 :: kc21 :: kc22 :: kc23 :: kc24 :: kc25 :: kc26 :: kc27 :: kc28 :: kc29 :: kc30 :: kc31 :: kc32 :: kc33 :: kc34 :: kc35 :: kc36 :: kc37 :: kc38 :: kc39 :: kc40 :: kc41 :: kc42 :: kc43 :: kc44 :: kc45 :: kc46 :: kc47 :: kc48 :: kc49 :: kc50 :: kc51 :: kc52 :: kc53 :: kc54 :: kc55 :: kc56 :: kc57 :: kc58 :: kc59 :: kc60 :: kc61 :: kc62 :: kc63 :: kc64 :: kc65 :: kc66 :: kc67 :: ku68 :: ku69 :: ku70 :: ku71 :: ku72 :: ku73 :: ku74 :: ku75 :: ku76 :: ku77 :: ku78 :: ku79 :: ku80 :: ku81 :: ku82 :: ku83 :: ku84 :: ku85 :: kc86 :: kc87 :: []), []⟩ wr := by
  have HX := hide hexit
  clear hexit
  unfold rdl2C
  conv => arg 2; whnf
  have HM := hide hM
  clear hM
  have hgood := hb.good
  have hN5 := tests_le hb.good
  rw [hN] at hN5
  have hN2 : (N : Int) ≤ 512 := by omega
  have hfr := fun m (hs : ∃ s, stdT l m = some s) W (hW : Below w'.heap.size w' W) => rfrom_any l p cb A m o2 W (hb.later hW) hs
  have hrl : (testsT l).reverse.length = N := by rw [List.length_reverse]; exact hN
  obtain ⟨i0, hii, hz0, hz1, hz2⟩ := info_parts intInfo
  unfold ptrB at hfr
  obtain ⟨DQ, hDQ⟩ : ∃ q, depN l o2 (stdsT l).length = q := ⟨_, rfl⟩
  have hdi := fun k t => dep_inT (l := l) (x := o2) (k := k) (t := t) hgood
  rw [hDQ] at HX hdi
  have Hfr := hide hfr
  have Hi := hide hii
  have Hz0 := hide hz0
  have Hz1 := hide hz1
  have Hz2 := hide hz2
  have Hgood := hide hgood
  have Hrl := hide hrl
  have Hdi := hide hdi
  clear hfr hii hz0 hz1 hz2 hgood hrl hdi
  clear hb hN hDQ
  go_loopw [10, 13] (fun v i wr => ∃ k : Nat, k ≤ N ∧ i = .int .i64 k ∧ Mem w' (.row w'.heap.size 3 1 v (depT l DQ k).length (natV (depT l DQ k)) :: .row w'.heap.size 87 5 (.slice At N ct) N (rtsRow l) :: ts) wr) (fun _ i _ => N - (intOf i).toNat)
  case atStart => exact ⟨0, Nat.zero_le _, rfl, HM.out⟩
  case round =>
    obtain ⟨k, hk, rfl, hM⟩ := hrel
    clear HM
    have HM := hide hM
    clear hM
    by_cases hlt : k < N
    · have hlt2 : (k : Int) < N := by omega
      obtain ⟨t, ht⟩ : ∃ t, (testsT l).reverse[k]? = some t := ⟨_, List.getElem?_eq_getElem (by rw [Hrl.out]; exact hlt)⟩
      have hsuc := depT_succ (l := l) (q := DQ) (k := k)
      rw [Hdi.out k t ht] at hsuc
      obtain ⟨-, -, -, s, hs, -⟩ := rev_in Hgood.out ht
      have hf := Hfr.out t.std ⟨s, hs⟩
      obtain ⟨bb, hbb2⟩ : ∃ bb, memB (chainT l t.std) o2 = bb := ⟨_, rfl⟩
      have hbb3 : ((chainT l t.std).any fun m => decide (m = o2)) = bb := hbb2
      rw [hbb2] at hsuc
      rw [hbb3] at hf
      have hdl := depT_len (l := l) (q := DQ) (k := k)
      obtain ⟨b, cur, hA, -, hbk, -, -, hcc⟩ := row_blk (Mem.row_ HM.out 1 rfl) (by omega)
      have y1 := hbk.c (k * 5 + 1) (hcc (k * 5 + 1) _ (rts_at ht 1 _ rfl))
      have lty := hbk.lt
      subst hA
      have Hf := hide hf
      clear hbk hcc ht hs hbb2 hbb3 hf
      obtain ⟨tr, tn, tt, tl, th⟩ := t
      simp only at y1 Hf
      obtain ⟨D, hD⟩ : ∃ D, depT l DQ k = D := ⟨_, rfl⟩
      rw [hD] at hsuc HM hdl
      cases bb with
      | true =>
        rw [if_pos rfl] at hsuc
        have hs2 : natV (depT l DQ (k + 1)) = natV D ++ [.int .i64 (k : Int)] := by rw [hsuc]; unfold natV; rw [List.map_append]; rfl
        have hs3 : (depT l DQ (k + 1)).length = D.length + 1 := by rw [hsuc, List.length_append]; rfl
        have HS := hide hs2
        have HS3 := hide hs3
        obtain ⟨Q, hQ⟩ : ∃ Q, natV D = Q := ⟨_, rfl⟩
        obtain ⟨M, hM⟩ : ∃ M, D.length = M := ⟨_, rfl⟩
        rw [hQ] at HS HM
        rw [hM] at HS3 HM hdl
        clear hsuc hD hs2 hs3 hQ hM
        go_wp2_with fail
        refine (Hf.out _ HM.out.below).mono ?_
        rintro e w3 ⟨rfl, hb⟩
        replace HM := hide (HM.out.later hb)
        clear hb
        have hownM := Mem.row_ HM.out 0 rfl
        have hbaseM : w'.heap.size ≤ w3.heap.size := HM.out.size
        go_wp2_with (at_builtin; refine wpList_append_own_at _ rfl (.tmp 82) (.tmp 84) _ rfl w'.heap.size 3 i0 _ 1 8 Try.underlying40 Hi.out Hz0.out Hz1.out Hz2.out rfl (by decide) _ M Q rfl (hownM.alloc _) ⟨w3.heap.size, 0, none⟩ 1 1 [.int .i64 k] rfl rfl ?q2c1 (by intro u hu; simp only [List.mem_cons, List.not_mem_nil, or_false] at hu; rcases hu with rfl <;> rfl) ?q2c3 ?q2c4 ?q2c5 ?_)
        try case q2c1 => exact new_cellsQ w3 _ [.int .i64 k]
        case q2c3 => unfold maxLen; omega
        case q2c4 => omega
        case q2c5 => simp; omega
        intro o2v w4 hown2 hgr2 _ hat2
        have HMn := HM.out.grow 0 rfl _ hgr2 hown2 hat2
        replace HM := hide HMn
        clear HMn hown2 hgr2 hat2 hownM hbaseM
        go_wp2_with fail
        go_roundw
        case rel => exact ⟨k + 1, hlt, by go_num, by rw [HS.out, HS3.out]; exact HM.out⟩
        case measure => simp [intOf] <;> omega
      | false =>
        rw [if_neg (by decide), List.append_nil] at hsuc
        have HS := hide hsuc
        clear hsuc
        subst hD
        go_wp2_with fail
        refine (Hf.out _ HM.out.below).mono ?_
        rintro e w3 ⟨rfl, hb⟩
        replace HM := hide (HM.out.later hb)
        clear hb
        go_wp2_with fail
        go_roundw
        case rel => exact ⟨k + 1, hlt, by go_num, by rw [HS.out]; exact HM.out⟩
        case measure => simp [intOf] <;> omega
    · obtain rfl : k = N := by omega
      have hkk : ¬ ((k : Int) < k) := by omega
      go_wp2_with fail
      exact HX.out HM.out

set_option maxHeartbeats 4000000 in
set_option maxRecDepth 100000 in
theorem rDepends_any (l : List Ent) (p c : Nat) (A : Option Addr) (n : ByteArray) (w : World) (hb : RefR l p A c w) :
    Calls Try.prog 83 #[ptrB p, .string n] w (DepPost w (dependA l n)) := by
  have hst := fun W (hW : Below w.heap.size w W) => rstandard_any l p c A n W (hb.later hW)
  have hts := fun W (hW : Below w.heap.size w W) => rtests_any l p c A W (hb.later hW)
  obtain ⟨R, hR⟩ : ∃ R, dependA l n = R := ⟨_, rfl⟩
  rw [hR]
  have Hb := hide hb
  unfold ptrB at *
  have Hst := hide hst
  have Hts := hide hts
  clear hst hts
  clear hb
  cases hs : stdT l n with
  | none =>
    have hRv : R = ([], [], 4) := by rw [← hR]; unfold dependA; rw [hs]
    subst hRv
    unfold standardV at Hst
    simp only [hs] at Hst
    unfold stdV std0 at Hst
    clear hR
    go_enter Try.func83, Try.ntmps83
    have HM := hide (Mem.start w)
    go_wp2_with fail
    refine (Hst.out _ HM.out.below).mono ?_
    rintro e w1 ⟨rfl, hb⟩
    replace HM := hide (HM.out.later hb)
    clear hb
    go_wp2_with fail
    refine ret_world fun W9 hW => ?_
    have hB9 : Below w.heap.size w W9 := by
      rw [hW]
      have hsz := HM.out.size
      repeat (first | exact HM.out.below | (refine Below.setCell ?_ (by first | omega | (simp; done) | (simp; omega)) _) | (refine Below.alloc ?_ (by first | omega | (simp; done) | (simp; omega)) _) | (refine below_drewN ?_ _))
    refine bodyPost_ret (v := .tuple #[.slice none 0 0, .slice none 0 0, .int .i64 4]) (by simp [results, Try.results83, go_sem]) rfl ⟨_, _, rfl, (((Mem.start w).later hB9).nilRow w.heap.size 9 1).nilRow w.heap.size 3 1⟩
  | some s =>
    have hRv : R = (depN l n (stdsT l).length, depT l (depN l n (stdsT l).length) (testsT l).length, 0) := by rw [← hR]; unfold dependA; rw [hs]
    subst hRv
    unfold standardV at Hst
    simp only [hs] at Hst
    unfold stdV at Hst
    clear hR
    go_enter Try.func83, Try.ntmps83
    have HM := hide (Mem.start w)
    go_wp2_with fail
    refine (Hst.out _ HM.out.below).mono ?_
    rintro e w1 ⟨rfl, hb⟩
    replace HM := hide (HM.out.later hb)
    clear hb
    go_wp2_with fail
    refine code_world fun W2 hW => ?_
    have HMn := Mem.to (Mem.allocAt HM.out w1.heap.size rfl #[.string s.name, .string s.par, .int .i64 s.lo, .int .i64 s.hi, .int .i64 s.time, .int .i64 s.stop, .int .i64 s.drift] 67) hW
    have LW : Later w1 W2 := by rw [hW]; exact ((Below.refl _ _).alloc (Nat.le_refl _) _)
    have szW : W2.heap.size = w1.heap.size + 1 := by rw [hW]; simp
    clear hW
    replace HM := hide HMn
    clear HMn LW
    clear szW
    have HM1 := hide (HM.out.tail.nilRow w.heap.size 9 1)
    clear HM
    have HM := HM1
    clear HM1
    refine rdl1 l p c A n _ w Hb.out HM.out ?_
    clear HM
    intro kv11 kv22 kv23 kv24 kv25 kv26 kv27 kv28 kv29 kv30 kv31 kv32 kv33 kv34 kv35 kv36 kv37 kv38 kv39 kv40 kv41 kv42 kv43 kv44 kv45 kv46 kv47 kv48 kv49 kv50 kv51 kv52 kv53 kv54 kv55 kv56 kv57 kv58 kv59 kv60 kv61 kv62 kv63 kv64 kv65
    intro v1 w3 hM
    have HM := hide hM
    clear hM
    go_wp2_with fail
    refine (Hts.out _ HM.out.below).mono ?_
    rintro e w4 ⟨v, rfl, hM2⟩
    have hMj := Mem.lowRow (Mem.joinL HM.out hM2) 0 rfl HM.out.size
    clear HM hM2
    obtain ⟨N, hN⟩ : ∃ N, (testsT l).length = N := ⟨_, rfl⟩
    rw [hN] at hMj ⊢
    have HM := hide hMj
    clear hMj
    obtain ⟨At, ct, rfl⟩ := own_shape2 (Mem.row_ HM.out 0 rfl)
    have HM1 := hide (HM.out.nilRow w.heap.size 3 1)
    clear HM
    have HM := HM1
    clear HM1
    go_wp2_with fail
    refine rdl2 l p c A n At ct N _ w Hb.out hN HM.out ?_
    clear HM
    intro kv13 kv68 kv69 kv70 kv71 kv72 kv73 kv74 kv75 kv76 kv77 kv78 kv79 kv80 kv81 kv82 kv83 kv84 kv85
    intro v2 w5 hM
    have HM := hide (hM.drop 1 rfl)
    clear hM
    go_wp2
    refine bodyPost_ret (v := .tuple #[v1, v2, .int .i64 0]) (by simp [results, Try.results83, go_sem]) rfl ⟨v1, v2, rfl, by simp only [hN]; exact HM.out⟩
end Go.Proofs.Ytiggefmckomilaa
