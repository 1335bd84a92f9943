/-
  What is left of a region behind its quiet operations: one or two new variables that are laid and filled, in whatever order.
  What is left of a region behind its quiet operations: one element is appended to a row of the call's own.
  Single steps of a region: an operation that lays one new block, a call.
  Regions that draw their order, over any program: each operation is met by itself. A HARD operation (a call that makes memory or needs memory that the region has made, an alloc, a store, an append) has a fact that holds from then on, and the memory that the fact is about; all others are QUIET: one value, read off in one walk. Whatever order is drawn, all facts hold at the end.
  Regions that draw their order: whatever order is drawn, all facts hold at the end.
  Regions that draw their order: the law as it is used. The quiet operations are met in one or two walks in the text's order, the hard ones one by one.
  Regions that draw their order: a store of one number into a block that is known whole, among what is left.
-/
import Derived.Test.YtllpffkifleigaaRegion
import Derived.Test.YtllpffkifleigaaLoopsOf
import Derived.WalkKit
set_option linter.unusedSimpArgs false
set_option linter.unusedVariables false
section
namespace Go.Proofs.Ytllpffkifleigaa
open Go Go.RowKit

section
variable {P : Program} {md : Region.Mode} {ops : Array Oper} {S : Nat → Prop} {E : Nat → Bool}

theorem exec_alloc {o : Oper} {t : TypeId} {z : Value} (h : o.op = .alloc t) (hz : (P.info? t).map (·.zero) = some (some z)) (e : Operand → Value) (w : World) :
    (execOp e o).run P w = .ok (.value (.pointer (some ⟨w.heap.size, 0, none⟩))) (w.alloc (.cells z.cells t)) := by
  cases hi : P.info? t with
  | none => simp [hi] at hz
  | some i =>
    have hz' : i.zero = some z := by simpa [hi] using hz
    simp [execOp, h, hi, hz', go_sem, typeInfo, zeroValue]

theorem exec_store {o : Oper} {t t' : TypeId} {p x : Operand} {g : Nat} {old cells : Array Value} (h : o.op = .store t p x) {e : Operand → Value} {w : World} (hp : e p = .pointer (some ⟨g, 0, none⟩)) (hx : e x = .agg cells)
    (hg : Blk w g t' old) (hi : (P.info? t).map (·.size) = some cells.size) (ho : old.size = cells.size) (h1 : cells.all (·.oneCell') = true) :
    (execOp e o).run P w = .ok .skip (w.setRow g cells) := by
  have := run_storeCells_from (P := P) g t' cells.toList 0 old w hg (by simp; omega) (fun v hv => (Array.all_eq_true_iff_forall_mem.1 h1) v (by simpa using hv))
  simp at this
  cases hq : P.info? t with
  | none => simp [hq] at hi
  | some i =>
    have hs : i.size = cells.size := by simpa [hq] using hi
    simp [execOp, h, hp, hx, go_sem, sizeOf, typeInfo, hq, hs, this]

theorem blk_setRow {w : World} {g : Nat} {t : TypeId} {old cs : Array Value} (h : Blk w g t old) : Blk (w.setRow g cs) g t cs := by
  unfold Blk at *
  simp [World.setRow, Array.getElem?_modify, h]
theorem blk_setRow_other {w : World} {g k : Nat} {t : TypeId} {old cs : Array Value} (h : Blk w k t old) (hne : k ≠ g) : Blk (w.setRow g cs) k t old := by
  unfold Blk at *
  simp [World.setRow, Array.getElem?_modify, Ne.symm hne, h]
theorem below_setRow {B : Nat} {w : World} {g : Nat} {cs : Array Value} (hB : B ≤ g) : Below B w (w.setRow g cs) :=
  ⟨rfl, rfl, rfl, by simp [World.setRow], fun k hk => by simp [World.setRow, Array.getElem?_modify]; intro e; omega⟩
theorem kept_setRow {w : World} {g : Nat} {cs : Array Value} (hg : ¬ S g) : Kept S w (w.setRow g cs) :=
  ⟨rfl, rfl, rfl, by simp [World.setRow], fun k hk => by simp [World.setRow, Array.getElem?_modify]; intro e; subst e; exact absurd hk hg⟩
theorem kept_alloc {w : World} (o : Obj) (hS : ∀ k, S k → k < w.heap.size) : Kept S w (w.alloc o) := Kept.of_below hS ((Below.refl _ _).alloc (Nat.le_refl _) _)
theorem blk_later {w w' : World} {g : Nat} {t : TypeId} {cs : Array Value} (h : Blk w g t cs) (hl : Later w w') : Blk w' g t cs := h.below hl h.lt
theorem size_setRow' (w : World) (g : Nat) (cs : Array Value) : (w.setRow g cs).heap.size = w.heap.size := by simp [World.setRow]

def isAlloc (o : Option Oper) (t : TypeId) (p : Tmp) : Bool := match o with
  | some ⟨some d, .alloc t', _, _, _, none⟩ => d == p && t' == t
  | _ => false
def isStore (o : Option Oper) (t : TypeId) (p x : Tmp) : Bool := match o with
  | some ⟨none, .store t' (.tmp p') (.tmp x'), _, _, _, none⟩ => p' == p && t' == t && x' == x
  | _ => false

theorem opR_alloc {i : Nat} {t : TypeId} {p : Tmp} {z : Value} (h : isAlloc ops[i]? t p = true) (hz : (P.info? t).map (·.zero) = some (some z)) {K : Act → World → Prop} {a : Act} {w : World} (hS : ∀ k, S k → k < w.heap.size)
    (hK : K (a.put (some p) (.pointer (some ⟨w.heap.size, 0, none⟩))) (w.alloc (.cells z.cells t))) : opR P ops S E i K a w := by
  unfold opR
  cases ho : ops[i]? with
  | none => rw [ho] at h; simp [isAlloc] at h
  | some o =>
    rw [ho] at h
    obtain ⟨dst, op, ty, pos, aft, gd⟩ := o
    cases dst with
    | none => simp [isAlloc] at h
    | some d => cases gd with
      | some x => cases op <;> simp [isAlloc] at h
      | none => cases op with
        | alloc t' =>
          simp [isAlloc] at h
          obtain ⟨rfl, rfl⟩ := h
          have e := exec_alloc (P := P) (o := ⟨some d, .alloc t', ty, pos, aft, none⟩) rfl hz a.eval w
          simp only [Region.wanted, if_true, e, uponR]
          exact ⟨fun _ => kept_alloc _ hS, hK⟩
        | _ => simp [isAlloc] at h

theorem opR_store {i : Nat} {t t' : TypeId} {p x : Tmp} {g : Nat} {old cells : Array Value} (h : isStore ops[i]? t p x = true) {K : Act → World → Prop} {a : Act} {w : World} (hp : a.tmps.getD p undef = .pointer (some ⟨g, 0, none⟩)) (hx : a.tmps.getD x undef = .agg cells)
    (hg : Blk w g t' old) (hi : (P.info? t).map (·.size) = some cells.size) (ho : old.size = cells.size) (h1 : cells.all (·.oneCell') = true) (hg' : E i = true → ¬ S g) (hK : K a (w.setRow g cells)) : opR P ops S E i K a w := by
  unfold opR
  cases ho' : ops[i]? with
  | none => rw [ho'] at h; simp [isStore] at h
  | some o =>
    rw [ho'] at h
    obtain ⟨dst, op, ty, pos, aft, gd⟩ := o
    cases dst with
    | some d => simp [isStore] at h
    | none => cases gd with
      | some x => cases op <;> simp [isStore] at h
      | none => cases op with
        | store t1 p1 x1 =>
          cases p1 with
          | tmp p1 => cases x1 with
            | tmp x1 =>
              simp [isStore] at h
              obtain ⟨⟨rfl, rfl⟩, rfl⟩ := h
              have := exec_store (P := P) (o := ⟨none, .store t1 (.tmp p1) (.tmp x1), ty, pos, aft, none⟩) rfl (e := a.eval) (w := w) hp hx hg hi ho h1
              simp only [Region.wanted, if_true, this, uponR]
              exact ⟨fun he => kept_setRow (hg' he), hK⟩
            | _ => simp [isStore] at h
          | _ => simp [isStore] at h
        | _ => simp [isStore] at h

theorem getD_put {a : Act} {p : Tmp} {v : Value} (hp : p < a.tmps.size) : (a.put (some p) v).tmps.getD p undef = v := by simp [Act.put, Array.getD, hp]
theorem getD_put_ne {a : Act} {p x : Tmp} {v : Value} (hx : p ≠ x) : (a.put (some p) v).tmps.getD x undef = a.tmps.getD x undef := by
  simp only [Act.put, Array.getD_eq_getD_getElem?, Array.getElem?_setIfInBounds, hx, if_false]
theorem size_put' {a : Act} {p : Tmp} {v : Value} : (a.put (some p) v).tmps.size = a.tmps.size := by simp [Act.put]

def rem1B (md : Region.Mode) (ops : Array Oper) (listed : Array Bool) (i k : Nat) (t : TypeId) (p x : Tmp) : Bool :=
  Region.ready md ops listed == [i] && Region.ready md ops (listed.setIfInBounds i true) == [k] && (Region.ready md ops ((listed.setIfInBounds i true).setIfInBounds k true)).isEmpty && isAlloc ops[i]? t p && isStore ops[k]? t p x && p != x

theorem below_later' {B : Nat} {a b c : World} (h : Below B a b) (k : Later b c) (hB : B ≤ a.heap.size) : Below B a c := h.trans (Below.mono k (Nat.le_trans hB h.size))

/-- One new variable is laid and filled. -/
theorem anyR_new1 {Q : Act → World → Prop} {f n : Nat} {listed : Array Bool} {a : Act} {w : World} (i k : Nat) (t : TypeId) (p x : Tmp) (z : Value) (cells : Array Value) (hb : rem1B md ops listed i k t p x = true) (hn : n = f + 2) (hz : (P.info? t).map (·.zero) = some (some z))
    (hi : (P.info? t).map (·.size) = some cells.size) (hzs : z.cells.size = cells.size) (hp : p < a.tmps.size) (hx : a.tmps.getD x undef = .agg cells) (h1 : cells.all (·.oneCell') = true) (hS : ∀ k, S k → k < w.heap.size)
    (h : ∀ g w', w.heap.size ≤ g → Below w.heap.size w w' → Blk w' g t cells → Q (a.put (some p) (.pointer (some ⟨g, 0, none⟩))) w') : anyR P md ops S E Q n listed a w := by
  subst hn
  simp only [rem1B, Bool.and_eq_true, beq_iff_eq, bne_iff_ne, List.isEmpty_iff] at hb
  obtain ⟨⟨⟨⟨⟨r1, r2⟩, r3⟩, ha⟩, hs⟩, hne⟩ := hb
  refine anyR_one i _ r1 (beq_self_eq_true _) fun w1 h1' => opR_alloc ha hz (fun k hk => Nat.lt_of_lt_of_le (hS k hk) h1'.size) ?_
  refine anyR_one k _ r2 (beq_self_eq_true _) fun w2 h2' => ?_
  have hbk := blk_later (Blk.new w1 t z.cells) h2'
  refine opR_store hs (getD_put hp) (by rw [getD_put_ne hne]; exact hx) hbk hi hzs h1 (fun _ hk => absurd (hS _ hk) (by have := h1'.size; omega)) ?_
  refine anyR_done r3 fun w3 h3 => h _ _ h1'.size ?_ (blk_later (blk_setRow hbk) h3)
  have b2 : Below w.heap.size w (w1.alloc (.cells z.cells t)) := Below.alloc h1' h1'.size _
  have b3 := below_later' b2 h2' (Nat.le_refl _)
  have b4 := b3.trans (below_setRow (B := w.heap.size) (w := w2) (g := w1.heap.size) (cs := cells) h1'.size)
  exact below_later' b4 h3 (Nat.le_refl _)

def rem2B (md : Region.Mode) (ops : Array Oper) (l0 : Array Bool) (i j k m : Nat) (t t' : TypeId) (p q x y : Tmp) : Bool :=
  Region.ready md ops l0 == [i, j] && Region.ready md ops (l0.setIfInBounds i true) == [j, k] && Region.ready md ops (l0.setIfInBounds j true) == [i, m] &&
  Region.ready md ops ((l0.setIfInBounds i true).setIfInBounds j true) == [k, m] && Region.ready md ops ((l0.setIfInBounds i true).setIfInBounds k true) == [j] && Region.ready md ops ((l0.setIfInBounds j true).setIfInBounds m true) == [i] &&
  Region.ready md ops (((l0.setIfInBounds i true).setIfInBounds j true).setIfInBounds k true) == [m] && Region.ready md ops (((l0.setIfInBounds i true).setIfInBounds j true).setIfInBounds m true) == [k] &&
  (Region.ready md ops ((((l0.setIfInBounds i true).setIfInBounds j true).setIfInBounds k true).setIfInBounds m true)).isEmpty &&
  isAlloc ops[i]? t p && isAlloc ops[j]? t' q && isStore ops[k]? t p x && isStore ops[m]? t' q y && p != x && p != y && q != x && q != y && p != q && i != j && i != k && i != m && j != k && j != m && k != m

def rem2P (md : Region.Mode) (ops : Array Oper) (l0 : Array Bool) (i j k m : Nat) (t t' : TypeId) (p q x y : Tmp) : Bool :=
  Region.ready md ops l0 == [i, j] && Region.ready md ops (l0.setIfInBounds i true) == [j] && Region.ready md ops (l0.setIfInBounds j true) == [i] &&
  Region.ready md ops ((l0.setIfInBounds i true).setIfInBounds j true) == [k] && Region.ready md ops (((l0.setIfInBounds i true).setIfInBounds j true).setIfInBounds k true) == [m] &&
  (Region.ready md ops ((((l0.setIfInBounds i true).setIfInBounds j true).setIfInBounds k true).setIfInBounds m true)).isEmpty &&
  isAlloc ops[i]? t p && isAlloc ops[j]? t' q && isStore ops[k]? t p x && isStore ops[m]? t' q y && p != x && p != y && q != x && q != y && p != q && i != j

theorem set_comm (l : Array Bool) {i j : Nat} (h : i ≠ j) : (l.setIfInBounds i true).setIfInBounds j true = (l.setIfInBounds j true).setIfInBounds i true := Array.setIfInBounds_comm _ _ h

theorem anyR_two {Q : Act → World → Prop} {f : Nat} {listed : Array Bool} {a : Act} {w : World} {i j : Nat} (hr : Region.ready md ops listed = [i, j])
    (h : ∀ w1, Later w w1 → opR P ops S E i (anyR P md ops S E Q f (listed.setIfInBounds i true)) a w1) (h' : ∀ w1, Later w w1 → opR P ops S E j (anyR P md ops S E Q f (listed.setIfInBounds j true)) a w1) : anyR P md ops S E Q (f + 1) listed a w := by
  refine ⟨fun h0 => ?_, fun k hk => ?_⟩
  · rw [hr] at h0; cases h0
  · rw [hr] at hk
    rcases List.mem_cons.1 hk with rfl | hk
    · exact h
    · have : k = j := by simpa using hk
      subst this; exact h'

theorem put_put (a : Act) {p q : Tmp} (h : p ≠ q) (u v : Value) : (a.put (some p) u).put (some q) v = (a.put (some q) v).put (some p) u := Act.put_comm a u v (by intro d hd e; exact h (Option.some.inj (hd.trans e.symm)))

/-- Two new variables are laid and filled, in whatever order. -/
theorem anyR_new2 {Q : Act → World → Prop} {f n : Nat} {l0 : Array Bool} {a : Act} {w : World} (i j k m : Nat) (t t' : TypeId) (p q x y : Tmp) (z z' : Value) (cs cs' : Array Value) (hb : rem2B md ops l0 i j k m t t' p q x y = true) (hn : n = f + 4)
    (hz : (P.info? t).map (·.zero) = some (some z)) (hi : (P.info? t).map (·.size) = some cs.size) (hzs : z.cells.size = cs.size) (hz' : (P.info? t').map (·.zero) = some (some z')) (hi' : (P.info? t').map (·.size) = some cs'.size) (hzs' : z'.cells.size = cs'.size)
    (hp : p < a.tmps.size) (hq : q < a.tmps.size) (hx : a.tmps.getD x undef = .agg cs) (hy : a.tmps.getD y undef = .agg cs') (h1 : cs.all (·.oneCell') = true) (h1' : cs'.all (·.oneCell') = true) (hS : ∀ k, S k → k < w.heap.size)
    (h : ∀ g g' w', w.heap.size ≤ g → w.heap.size ≤ g' → g ≠ g' → Below w.heap.size w w' → Blk w' g t cs → Blk w' g' t' cs' → Q ((a.put (some p) (.pointer (some ⟨g, 0, none⟩))).put (some q) (.pointer (some ⟨g', 0, none⟩))) w') : anyR P md ops S E Q n l0 a w := by
  subst hn
  simp only [rem2B, Bool.and_eq_true, beq_iff_eq, bne_iff_ne, List.isEmpty_iff] at hb
  have hB : w.heap.size ≤ w.heap.size := Nat.le_refl _
  have nS : ∀ g, w.heap.size ≤ g → ¬ S g := fun g hg hs => absurd (hS g hs) (by omega)
  have upS : ∀ w' : World, w.heap.size ≤ w'.heap.size → ∀ k, S k → k < w'.heap.size := fun w' hw k hk => Nat.lt_of_lt_of_le (hS k hk) hw
  obtain ⟨⟨⟨⟨⟨⟨⟨⟨⟨⟨⟨⟨⟨⟨⟨⟨⟨⟨⟨⟨⟨⟨⟨r0, ri⟩, rj⟩, rij⟩, rik⟩, rjm⟩, rijk⟩, rijm⟩, rall⟩, hai⟩, haj⟩, hsk⟩, hsm⟩, px⟩, py⟩, qx⟩, qy⟩, pq⟩, nij⟩, nik⟩, nim⟩, njk⟩, njm⟩, nkm⟩ := hb
  have eqs : ∀ u v : Value, (a.put (some q) v).put (some p) u = (a.put (some p) u).put (some q) v := fun u v => (put_put a pq u v).symm
  -- both filled: the end
  have fin : ∀ (g g' : Nat) (l : Array Bool) (w' : World), l = (((l0.setIfInBounds i true).setIfInBounds j true).setIfInBounds k true).setIfInBounds m true → w.heap.size ≤ g → w.heap.size ≤ g' → g ≠ g' → Below w.heap.size w w' → Blk w' g t cs → Blk w' g' t' cs' → ∀ f', anyR P md ops S E Q f' l ((a.put (some p) (.pointer (some ⟨g, 0, none⟩))).put (some q) (.pointer (some ⟨g', 0, none⟩))) w' :=
    fun g g' l w' hl hg hg' hne hb hc hc' f' => by
      subst hl
      exact anyR_done rall fun w3 h3 => h g g' w3 hg hg' hne (below_later' hb h3 hB) (blk_later hc h3) (blk_later hc' h3)
  -- both laid
  have both : ∀ (g g' : Nat) (l : Array Bool) (w' : World), l = (l0.setIfInBounds i true).setIfInBounds j true → w.heap.size ≤ g → w.heap.size ≤ g' → g ≠ g' → Below w.heap.size w w' → Blk w' g t z.cells → Blk w' g' t' z'.cells →
      anyR P md ops S E Q (f + 2) l ((a.put (some p) (.pointer (some ⟨g, 0, none⟩))).put (some q) (.pointer (some ⟨g', 0, none⟩))) w' := fun g g' l w' hl hg hg' hne hb hc hc' => by
    subst hl
    have vp : ((a.put (some p) (.pointer (some ⟨g, 0, none⟩))).put (some q) (.pointer (some ⟨g', 0, none⟩))).tmps.getD p undef = .pointer (some ⟨g, 0, none⟩) := by rw [getD_put_ne (Ne.symm pq), getD_put hp]
    have vq : ((a.put (some p) (.pointer (some ⟨g, 0, none⟩))).put (some q) (.pointer (some ⟨g', 0, none⟩))).tmps.getD q undef = .pointer (some ⟨g', 0, none⟩) := getD_put (by rw [size_put']; exact hq)
    have vx : ((a.put (some p) (.pointer (some ⟨g, 0, none⟩))).put (some q) (.pointer (some ⟨g', 0, none⟩))).tmps.getD x undef = .agg cs := by rw [getD_put_ne qx, getD_put_ne px, hx]
    have vy : ((a.put (some p) (.pointer (some ⟨g, 0, none⟩))).put (some q) (.pointer (some ⟨g', 0, none⟩))).tmps.getD y undef = .agg cs' := by rw [getD_put_ne qy, getD_put_ne py, hy]
    refine anyR_two rij (fun w1 hl1 => opR_store hsk vp vx (blk_later hc hl1) hi hzs h1 (fun _ => nS _ (Nat.le_trans hB hg)) ?_) (fun w1 hl1 => opR_store hsm vq vy (blk_later hc' hl1) hi' hzs' h1' (fun _ => nS _ (Nat.le_trans hB hg')) ?_)
    · refine anyR_one m _ rijk (beq_self_eq_true _) fun w2 hl2 => opR_store hsm vq vy (blk_later (blk_setRow_other (blk_later hc' hl1) (Ne.symm hne)) hl2) hi' hzs' h1' (fun _ => nS _ (Nat.le_trans hB hg')) ?_
      exact fin g g' _ _ rfl hg hg' hne ((below_later' ((below_later' hb hl1 hB).trans (below_setRow (Nat.le_trans hB hg))) hl2 hB).trans (below_setRow (Nat.le_trans hB hg'))) (blk_setRow_other (blk_later (blk_setRow (blk_later hc hl1)) hl2) hne) (blk_setRow (blk_later (blk_setRow_other (blk_later hc' hl1) (Ne.symm hne)) hl2)) _
    · refine anyR_one k _ rijm (beq_self_eq_true _) fun w2 hl2 => opR_store hsk vp vx (blk_later (blk_setRow_other (blk_later hc hl1) hne) hl2) hi hzs h1 (fun _ => nS _ (Nat.le_trans hB hg)) ?_
      exact fin g g' _ _ (set_comm _ (Ne.symm nkm)) hg hg' hne ((below_later' ((below_later' hb hl1 hB).trans (below_setRow (Nat.le_trans hB hg'))) hl2 hB).trans (below_setRow (Nat.le_trans hB hg))) (blk_setRow (blk_later (blk_setRow_other (blk_later hc hl1) hne) hl2)) (blk_setRow_other (blk_later (blk_setRow (blk_later hc' hl1)) hl2) (Ne.symm hne)) _
  refine anyR_two r0 (fun w1 hl1 => opR_alloc hai hz (upS _ hl1.size) ?_) (fun w1 hl1 => opR_alloc haj hz' (upS _ hl1.size) ?_)
  · have b1 : Below w.heap.size w (w1.alloc (.cells z.cells t)) := Below.alloc (Below.mono hl1 hB) (Nat.le_trans hB hl1.size) _
    refine anyR_two ri (fun w2 hl2 => opR_alloc haj hz' (upS _ (by have := b1.size; have := hl2.size; omega)) ?_) (fun w2 hl2 => opR_store hsk (getD_put hp) (by rw [getD_put_ne px]; exact hx) (blk_later (Blk.new w1 t z.cells) hl2) hi hzs h1 (fun _ => nS _ (Nat.le_trans hB hl1.size)) ?_)
    · refine both w1.heap.size w2.heap.size _ _ rfl hl1.size (by have := b1.size; have := hl2.size; omega) (by have := hl2.size; simp at this; omega) ((below_later' b1 hl2 hB).alloc (by have := b1.size; have := hl2.size; omega) _) ((blk_later (Blk.new w1 t z.cells) hl2).alloc _) (Blk.new _ _ _)
    · refine anyR_one j _ rik (beq_self_eq_true _) fun w3 hl3 => opR_alloc haj hz' (upS _ (by have := b1.size; have := hl2.size; have := hl3.size; rw [size_setRow'] at this; omega)) ?_
      have hs3 := hl3.size
      rw [size_setRow'] at hs3
      have b3 := (below_later' ((below_later' b1 hl2 hB).trans (below_setRow (cs := cs) (Nat.le_trans hB hl1.size))) hl3 hB).alloc (o := .cells z'.cells t') (by have := b1.size; have := hl2.size; omega)
      have bk3 : Blk (w3.alloc (.cells z'.cells t')) w1.heap.size t cs := (blk_later (blk_setRow (blk_later (Blk.new w1 t z.cells) hl2)) hl3).alloc _
      have ne3 : w1.heap.size ≠ w3.heap.size := by have := hl2.size; simp at this; omega
      refine anyR_one m _ (by rw [show ((l0.setIfInBounds i true).setIfInBounds k true).setIfInBounds j true = ((l0.setIfInBounds i true).setIfInBounds j true).setIfInBounds k true from set_comm _ (Ne.symm njk)]; exact rijk) (beq_self_eq_true _) fun w4 hl4 => ?_
      refine opR_store hsm (getD_put (by rw [size_put']; exact hq)) (by rw [getD_put_ne qy, getD_put_ne py]; exact hy) (blk_later (Blk.new w3 t' z'.cells) hl4) hi' hzs' h1' (fun _ => nS _ (by have := b1.size; have := hl2.size; omega)) ?_
      exact fin w1.heap.size w3.heap.size _ _ (by rw [show ((l0.setIfInBounds i true).setIfInBounds k true).setIfInBounds j true = ((l0.setIfInBounds i true).setIfInBounds j true).setIfInBounds k true from set_comm _ (Ne.symm njk)]) hl1.size (by have := b1.size; have := hl2.size; omega) ne3
        ((below_later' b3 hl4 hB).trans (below_setRow (by have := b1.size; have := hl2.size; omega))) (blk_setRow_other (blk_later bk3 hl4) ne3) (blk_setRow (blk_later (Blk.new w3 t' z'.cells) hl4)) _
  · have b1 : Below w.heap.size w (w1.alloc (.cells z'.cells t')) := Below.alloc (Below.mono hl1 hB) (Nat.le_trans hB hl1.size) _
    refine anyR_two rj (fun w2 hl2 => opR_alloc hai hz (upS _ (by have := b1.size; have := hl2.size; omega)) ?_) (fun w2 hl2 => opR_store hsm (getD_put hq) (by rw [getD_put_ne qy]; exact hy) (blk_later (Blk.new w1 t' z'.cells) hl2) hi' hzs' h1' (fun _ => nS _ (Nat.le_trans hB hl1.size)) ?_)
    · rw [eqs]
      refine both w2.heap.size w1.heap.size _ _ (set_comm _ (Ne.symm nij)) (by have := b1.size; have := hl2.size; omega) hl1.size (by have := hl2.size; simp at this; omega) ((below_later' b1 hl2 hB).alloc (by have := b1.size; have := hl2.size; omega) _) (Blk.new _ _ _) ((blk_later (Blk.new w1 t' z'.cells) hl2).alloc _)
    · refine anyR_one i _ rjm (beq_self_eq_true _) fun w3 hl3 => opR_alloc hai hz (upS _ (by have := b1.size; have := hl2.size; have := hl3.size; rw [size_setRow'] at this; omega)) ?_
      have hs3 := hl3.size
      rw [size_setRow'] at hs3
      have b3 := (below_later' ((below_later' b1 hl2 hB).trans (below_setRow (cs := cs') (Nat.le_trans hB hl1.size))) hl3 hB).alloc (o := .cells z.cells t) (by have := b1.size; have := hl2.size; omega)
      have bk3 : Blk (w3.alloc (.cells z.cells t)) w1.heap.size t' cs' := (blk_later (blk_setRow (blk_later (Blk.new w1 t' z'.cells) hl2)) hl3).alloc _
      have ne3 : w3.heap.size ≠ w1.heap.size := by have := hl2.size; simp at this; omega
      have el : ((l0.setIfInBounds j true).setIfInBounds m true).setIfInBounds i true = ((l0.setIfInBounds i true).setIfInBounds j true).setIfInBounds m true := by rw [set_comm _ (Ne.symm nim), set_comm l0 (Ne.symm nij)]
      rw [eqs]
      refine anyR_one k _ (by rw [el]; exact rijm) (beq_self_eq_true _) fun w4 hl4 => ?_
      refine opR_store hsk (by rw [getD_put_ne (Ne.symm pq)]; exact getD_put hp) (by rw [getD_put_ne qx, getD_put_ne px]; exact hx) (blk_later (Blk.new w3 t z.cells) hl4) hi hzs h1 (fun _ => nS _ (by have := b1.size; have := hl2.size; omega)) ?_
      exact fin w3.heap.size w1.heap.size _ _ (by rw [el]; exact set_comm _ (Ne.symm nkm)) (by have := b1.size; have := hl2.size; omega) hl1.size ne3
        ((below_later' b3 hl4 hB).trans (below_setRow (by have := b1.size; have := hl2.size; omega))) (blk_setRow (blk_later (Blk.new w3 t z.cells) hl4)) (blk_setRow_other (blk_later bk3 hl4) (Ne.symm ne3)) _

/-- Two new variables are laid, in whatever order, and then filled one behind the other. -/
theorem anyR_pair {Q : Act → World → Prop} {f n : Nat} {l0 : Array Bool} {a : Act} {w : World} (i j k m : Nat) (t t' : TypeId) (p q x y : Tmp) (z z' : Value) (cs cs' : Array Value) (hb : rem2P md ops l0 i j k m t t' p q x y = true) (hn : n = f + 4)
    (hz : (P.info? t).map (·.zero) = some (some z)) (hi : (P.info? t).map (·.size) = some cs.size) (hzs : z.cells.size = cs.size) (hz' : (P.info? t').map (·.zero) = some (some z')) (hi' : (P.info? t').map (·.size) = some cs'.size) (hzs' : z'.cells.size = cs'.size)
    (hp : p < a.tmps.size) (hq : q < a.tmps.size) (hx : a.tmps.getD x undef = .agg cs) (hy : a.tmps.getD y undef = .agg cs') (h1 : cs.all (·.oneCell') = true) (h1' : cs'.all (·.oneCell') = true) (hS : ∀ k, S k → k < w.heap.size)
    (h : ∀ g g' w', w.heap.size ≤ g → w.heap.size ≤ g' → g ≠ g' → Below w.heap.size w w' → Blk w' g t cs → Blk w' g' t' cs' → Q ((a.put (some p) (.pointer (some ⟨g, 0, none⟩))).put (some q) (.pointer (some ⟨g', 0, none⟩))) w') : anyR P md ops S E Q n l0 a w := by
  subst hn
  simp only [rem2P, Bool.and_eq_true, beq_iff_eq, bne_iff_ne, List.isEmpty_iff] at hb
  obtain ⟨⟨⟨⟨⟨⟨⟨⟨⟨⟨⟨⟨⟨⟨⟨r0, ri⟩, rj⟩, rij⟩, rijk⟩, rall⟩, hai⟩, haj⟩, hsk⟩, hsm⟩, px⟩, py⟩, qx⟩, qy⟩, pq⟩, nij⟩ := hb
  have hB : w.heap.size ≤ w.heap.size := Nat.le_refl _
  have nS : ∀ g, w.heap.size ≤ g → ¬ S g := fun g hg hs => absurd (hS g hs) (by omega)
  have upS : ∀ w' : World, w.heap.size ≤ w'.heap.size → ∀ k, S k → k < w'.heap.size := fun w' hw k hk => Nat.lt_of_lt_of_le (hS k hk) hw
  have eqs : ∀ u v : Value, (a.put (some q) v).put (some p) u = (a.put (some p) u).put (some q) v := fun u v => (put_put a pq u v).symm
  have both : ∀ (g g' : Nat) (l : Array Bool) (w' : World), l = (l0.setIfInBounds i true).setIfInBounds j true → w.heap.size ≤ g → w.heap.size ≤ g' → g ≠ g' → Below w.heap.size w w' → Blk w' g t z.cells → Blk w' g' t' z'.cells →
      anyR P md ops S E Q (f + 2) l ((a.put (some p) (.pointer (some ⟨g, 0, none⟩))).put (some q) (.pointer (some ⟨g', 0, none⟩))) w' := fun g g' l w' hl hg hg' hne hb hc hc' => by
    subst hl
    have vp : ((a.put (some p) (.pointer (some ⟨g, 0, none⟩))).put (some q) (.pointer (some ⟨g', 0, none⟩))).tmps.getD p undef = .pointer (some ⟨g, 0, none⟩) := by rw [getD_put_ne (Ne.symm pq), getD_put hp]
    have vq : ((a.put (some p) (.pointer (some ⟨g, 0, none⟩))).put (some q) (.pointer (some ⟨g', 0, none⟩))).tmps.getD q undef = .pointer (some ⟨g', 0, none⟩) := getD_put (by rw [size_put']; exact hq)
    have vx : ((a.put (some p) (.pointer (some ⟨g, 0, none⟩))).put (some q) (.pointer (some ⟨g', 0, none⟩))).tmps.getD x undef = .agg cs := by rw [getD_put_ne qx, getD_put_ne px, hx]
    have vy : ((a.put (some p) (.pointer (some ⟨g, 0, none⟩))).put (some q) (.pointer (some ⟨g', 0, none⟩))).tmps.getD y undef = .agg cs' := by rw [getD_put_ne qy, getD_put_ne py, hy]
    refine anyR_one k _ rij (beq_self_eq_true _) fun w1 hl1 => opR_store hsk vp vx (blk_later hc hl1) hi hzs h1 (fun _ => nS _ hg) ?_
    refine anyR_one m _ rijk (beq_self_eq_true _) fun w2 hl2 => opR_store hsm vq vy (blk_later (blk_setRow_other (blk_later hc' hl1) (Ne.symm hne)) hl2) hi' hzs' h1' (fun _ => nS _ hg') ?_
    exact anyR_done rall fun w3 h3 => h g g' w3 hg hg' hne (below_later' ((below_later' ((below_later' hb hl1 hB).trans (below_setRow hg)) hl2 hB).trans (below_setRow hg')) h3 hB)
      (blk_later (blk_setRow_other (blk_later (blk_setRow (blk_later hc hl1)) hl2) hne) h3) (blk_later (blk_setRow (blk_later (blk_setRow_other (blk_later hc' hl1) (Ne.symm hne)) hl2)) h3)
  refine anyR_two r0 (fun w1 hl1 => opR_alloc hai hz (upS _ hl1.size) ?_) (fun w1 hl1 => opR_alloc haj hz' (upS _ hl1.size) ?_)
  · have b1 : Below w.heap.size w (w1.alloc (.cells z.cells t)) := Below.alloc hl1 hl1.size _
    refine anyR_one j _ ri (beq_self_eq_true _) fun w2 hl2 => opR_alloc haj hz' (upS _ (by have := b1.size; have := hl2.size; omega)) ?_
    exact both w1.heap.size w2.heap.size _ _ rfl hl1.size (by have := b1.size; have := hl2.size; omega) (by have := hl2.size; simp at this; omega) ((below_later' b1 hl2 hB).alloc (by have := b1.size; have := hl2.size; omega) _) ((blk_later (Blk.new w1 t z.cells) hl2).alloc _) (Blk.new _ _ _)
  · have b1 : Below w.heap.size w (w1.alloc (.cells z'.cells t')) := Below.alloc hl1 hl1.size _
    refine anyR_one i _ rj (beq_self_eq_true _) fun w2 hl2 => opR_alloc hai hz (upS _ (by have := b1.size; have := hl2.size; omega)) ?_
    rw [eqs]
    exact both w2.heap.size w1.heap.size _ _ (set_comm _ (Ne.symm nij)) (by have := b1.size; have := hl2.size; omega) hl1.size (by have := hl2.size; simp at this; omega) ((below_later' b1 hl2 hB).alloc (by have := b1.size; have := hl2.size; omega) _) (Blk.new _ _ _) ((blk_later (Blk.new w1 t' z'.cells) hl2).alloc _)

def rem0B (md : Region.Mode) (ops : Array Oper) (listed : Array Bool) (i : Nat) (t : TypeId) (p x : Tmp) : Bool :=
  Region.ready md ops listed == [i] && (Region.ready md ops (listed.setIfInBounds i true)).isEmpty && isStore ops[i]? t p x
theorem grown_later {a b c : World} {row : Option Nat} (h : Later a b) (k : b.grownBy c row) : a.grownBy c row :=
  ⟨k.os.trans h.os, k.tape.trans h.tape, k.output.trans h.output, Nat.le_trans h.size k.size, fun i hi hne => (k.block i (Nat.lt_of_lt_of_le hi h.size) hne).trans (h.block i hi)⟩
theorem later_grown {a b c : World} {row : Option Nat} (k : a.grownBy b row) (h : Later b c) : a.grownBy c row :=
  ⟨h.os.trans k.os, h.tape.trans k.tape, h.output.trans k.output, Nat.le_trans k.size h.size, fun i hi hne => (h.block i (Nat.lt_of_lt_of_le hi k.size)).trans (k.block i hi hne)⟩
theorem grown_setRow (w : World) (g : Nat) (cs : Array Value) : w.grownBy (w.setRow g cs) (some g) :=
  ⟨rfl, rfl, rfl, by simp [World.setRow], fun k _ hne => by
    have : g ≠ k := fun e => hne (by rw [e])
    simp [World.setRow, Array.getElem?_modify, this]⟩

/-- One variable that is there is filled. -/
theorem anyR_fill {Q : Act → World → Prop} {f n : Nat} {listed : Array Bool} {a : Act} {w : World} (i : Nat) (t t' : TypeId) (p x : Tmp) (g : Nat) (old cells : Array Value) (hb : rem0B md ops listed i t p x = true) (hn : n = f + 1)
    (hp : a.tmps.getD p undef = .pointer (some ⟨g, 0, none⟩)) (hx : a.tmps.getD x undef = .agg cells) (hg : Blk w g t' old) (hi : (P.info? t).map (·.size) = some cells.size) (ho : old.size = cells.size) (h1 : cells.all (·.oneCell') = true) (hE : E i = true → ¬ S g)
    (h : ∀ w', w.grownBy w' (some g) → Blk w' g t' cells → Q a w') : anyR P md ops S E Q n listed a w := by
  subst hn
  simp only [rem0B, Bool.and_eq_true, beq_iff_eq, List.isEmpty_iff] at hb
  obtain ⟨⟨r1, r2⟩, hs⟩ := hb
  refine anyR_one i _ r1 (beq_self_eq_true _) fun w1 h1' => opR_store hs hp hx (blk_later hg h1') hi ho h1 hE ?_
  exact anyR_done r2 fun w2 h2 => h w2 (later_grown (grown_later h1' (grown_setRow w1 g cells)) h2) (blk_later (blk_setRow (blk_later hg h1')) h2)
theorem liftB {D : World → Prop} {B : Nat} {w : World} (hD : Good (fun k => k < B) w D) {b o : Nat} {v : Value} (h : w.cell? ⟨b, o, none⟩ = some v) (hb : b < B) (x : Of D) : x.val.cell? ⟨b, o, none⟩ = some v := lift hD h hb x
theorem Blk.c {w : World} {g : Nat} {t : TypeId} {cs : Array Value} (h : Blk w g t cs) (i : Nat) {v : Value} (hi : cs[i]? = some v) : w.cell? ⟨g, i, none⟩ = some v := (h.cell i).trans hi
end
theorem onward {a b c : World} (h : Below a.heap.size a b) (k : Below b.heap.size b c) : Below a.heap.size a c := below_later' h k (Nat.le_refl _)
theorem quiet_left {P : Program} {f : FuncId} {args : Array Value} {w : World} {n : Nat} {v : Value}
    (h : Calls P f args (w.drewN n) fun e w' => e = .returned v ∧ w.drewN n = w') : Calls P f args (w.drewN n) fun e w'' => e = .returned v ∧ ∃ m, w'' = w.drewN m :=
  h.mono fun _ _ ⟨he, hm⟩ => ⟨he, n, hm.symm⟩
theorem blk_new_at {w : World} {t : TypeId} {cs : Array Value} {g : Nat} (h : g = w.heap.size) : Blk (w.alloc (.cells cs t)) g t cs := by subst h; exact Blk.new _ _ _
theorem Blk.c2 {w : World} {g : Nat} {t : TypeId} {u v : Value} (h : Blk w g t #[u, v]) : w.cell? ⟨g, 0, none⟩ = some u ∧ w.cell? ⟨g, 1, none⟩ = some v := ⟨h.c 0 rfl, h.c 1 rfl⟩
theorem Blk.c3 {w : World} {g : Nat} {t : TypeId} {u v x : Value} (h : Blk w g t #[u, v, x]) : w.cell? ⟨g, 0, none⟩ = some u ∧ w.cell? ⟨g, 1, none⟩ = some v ∧ w.cell? ⟨g, 2, none⟩ = some x := ⟨h.c 0 rfl, h.c 1 rfl, h.c 2 rfl⟩
theorem Blk.c4 {w : World} {g : Nat} {t : TypeId} {u v x y : Value} (h : Blk w g t #[u, v, x, y]) : w.cell? ⟨g, 0, none⟩ = some u ∧ w.cell? ⟨g, 1, none⟩ = some v ∧ w.cell? ⟨g, 2, none⟩ = some x ∧ w.cell? ⟨g, 3, none⟩ = some y := ⟨h.c 0 rfl, h.c 1 rfl, h.c 2 rfl, h.c 3 rfl⟩
theorem one2 (a b : Int) : (#[.int .i64 a, .int .i64 b] : Array Value).all (·.oneCell') = true := by simp [Value.oneCell']
theorem one3 (a b c : Int) : (#[.int .i64 a, .int .i64 b, .int .i64 c] : Array Value).all (·.oneCell') = true := by simp [Value.oneCell']
theorem one4 (a b c d : Int) : (#[.int .i64 a, .int .i64 b, .int .i64 c, .int .i64 d] : Array Value).all (·.oneCell') = true := by simp [Value.oneCell']
end Go.Proofs.Ytllpffkifleigaa
end
section
namespace Go.Proofs.Ytllpffkifleigaa
open Go Go.RowKit

theorem own_later {w w' : World} {base : Nat} {e : TypeId} {size n : Nat} {v : Value} {xs : List Value} (h : w.ownsRow base e size v n xs) (hl : Later w w') : w'.ownsRow base e size v n xs := by
  refine ⟨h.1, ?_⟩
  rcases h.2 with h0 | ⟨g, cap, cur, hv, hb, hg, r⟩
  · exact .inl h0
  · refine .inr ⟨g, cap, cur, hv, hb, ?_, r⟩
    have hlt : g < w.heap.size := (Array.getElem?_eq_some_iff.1 hg).1
    rw [hl.block g hlt]; exact hg

theorem kb {D : World → Prop} {B : Nat} {w : World} (hD : Good (fun k => k < B) w D) (x : Of D) : Below B w x.val := by
  have h := hD.low _ x.ok
  exact ⟨h.os, h.tape, h.output, h.size, h.block⟩
section
variable {P : Program} {md : Region.Mode} {ops : Array Oper} {S : Nat → Prop} {E : Nat → Bool}

theorem opR_of {i : Nat} {o : Oper} (h : ops[i]? = some o) (hg : o.guard = none) {K : Act → World → Prop} {a : Act} {w : World} (hk : uponR P S (E i) o a w K ((execOp a.eval o).run P w)) : opR P ops S E i K a w := by
  unfold opR
  simp only [h, Region.wanted, hg, if_true]
  exact hk

theorem opR_build1 {i : Nat} {oi : Oper} {t e : TypeId} {p x : Tmp} {cells : Array Value} (h : ops[i]? = some oi) (hop : oi.op = .buildSlice t 1 #[(0, .tmp x)]) (hd : oi.dst = some p) (hg : oi.guard = none) {K : Act → World → Prop} {a : Act} {w : World}
    (hrun : (Instr.buildSlice t 1 #[(0, a.tmps.getD x undef)]).run P w = .ok (.slice (some ⟨w.heap.size, 0, none⟩) 1 1) (w.alloc (.cells cells e))) (hS : ∀ k, S k → k < w.heap.size)
    (hK : K (a.put (some p) (.slice (some ⟨w.heap.size, 0, none⟩) 1 1)) (w.alloc (.cells cells e))) : opR P ops S E i K a w := by
  refine opR_of h hg ?_
  have e1 : (execOp a.eval oi).run P w = .ok (.value (.slice (some ⟨w.heap.size, 0, none⟩) 1 1)) (w.alloc (.cells cells e)) := by
    simp only [execOp, hop, List.map_toArray, List.map_cons, List.map_nil, Act.eval, Sem.run_bind, hrun, Result.andThen_ok, Sem.run_pure]
  rw [e1]
  exact ⟨fun _ => kept_alloc _ hS, by rw [hd]; exact hK⟩

theorem opR_append {i : Nat} {oi : Oper} {t : TypeId} {s p q : Tmp} (h : ops[i]? = some oi) (hop : oi.op = .call { callee := .builtin .append, args := #[.tmp s, .tmp p], argTypes := #[t, t] }) (hd : oi.dst = some q) (hg : oi.guard = none) {K : Act → World → Prop} {a : Act} {w : World}
    (base : Nat) (e : TypeId) (i0 : TypeInfo) (z : Value) (size bytes : Nat) (ht : P.underlying t = some (.slice e)) (hi : P.info? e = some i0) (hz : i0.zero = some z)
    (hsize : i0.size = size) (hby : i0.bytes = bytes) (hzs : z.cells.size = size) (hsz : 0 < size)
    (v : Value) (n : Nat) (xs : List Value) (hs : a.tmps.getD s undef = v) (hown : w.ownsRow base e size v n xs)
    (ad : Addr) (m c : Nat) (news : List Value) (hx : a.tmps.getD p undef = .slice (some ad) m c) (hl : news.length = m * size) (hnews : ∀ j u, news[j]? = some u → w.cell? (ad.add j) = some u) (h1 : ∀ u ∈ news, u.oneCell' = true)
    (h63 : n + m ≤ maxLen) (hbytes : (n + m) * bytes ≤ 140737488355328) (hbase : base ≤ w.heap.size) (hE : E i = true → ∀ g, v.ownBlock = some g → ¬ S g) (hS : ∀ k, S k → k < w.heap.size)
    (hK : ∀ v' w', w'.ownsRow base e size v' (n + m) (xs ++ news) → w.grownBy w' v.ownBlock → K (a.put (some q) v') w') : opR P ops S E i K a w := by
  refine opR_of h hg ?_
  obtain ⟨v', w', hrun, h2, h3, _⟩ := run_append_own (P := P) w base t oi.type e i0 z size bytes ht hi hz hsize hby hzs hsz v n xs hown ad m c news hl hnews h1 h63 hbytes hbase
  have e1 : (execOp a.eval oi).run P w = .ok (.value v') w' := by
    simp only [execOp, hop, resolve, invoke, builtin, Sem.run_bind, Sem.run_pure, Result.andThen_ok, List.map_toArray, List.map_cons, List.map_nil, Act.eval, hs, hx, hrun]
  rw [e1]
  exact ⟨fun he => ⟨h3.os, h3.tape, h3.output, h3.size, fun k hk => h3.block k (hS k hk) fun e2 => hE he k e2.symm hk⟩, by rw [hd]; exact hK v' w' h2 h3⟩

theorem opR_assign {i : Nat} {oi : Oper} {q r : Tmp} (h : ops[i]? = some oi) (hop : oi.op = .assign (.tmp q)) (hd : oi.dst = some r) (hg : oi.guard = none) {K : Act → World → Prop} {a : Act} {w : World} (hK : K (a.put (some r) (a.tmps.getD q undef)) w) : opR P ops S E i K a w := by
  refine opR_of h hg ?_
  have e1 : (execOp a.eval oi).run P w = .ok (.value (a.tmps.getD q undef)) w := by
    simp only [execOp, hop, Act.eval, Sem.run_pure]
  rw [e1]
  exact ⟨fun _ => Kept.refl _ _, by rw [hd]; exact hK⟩

def pushB (md : Region.Mode) (ops : Array Oper) (l0 : Array Bool) (i k m : Nat) : Bool :=
  Region.ready md ops l0 == [i] && Region.ready md ops (l0.setIfInBounds i true) == [k] && Region.ready md ops ((l0.setIfInBounds i true).setIfInBounds k true) == [m] &&
  (Region.ready md ops (((l0.setIfInBounds i true).setIfInBounds k true).setIfInBounds m true)).isEmpty

/-- 'out = append(out, x)', x a struct: what is left of it. -/
theorem anyR_push {Q : Act → World → Prop} {f nn : Nat} {l0 : Array Bool} {a : Act} {w : World} (i k m : Nat) (t e : TypeId) (s p q r x : Tmp) (hb : pushB md ops l0 i k m = true) (hps : p ≠ s) {oi ok om : Oper} (hi' : ops[i]? = some oi) (hio : oi.op = .buildSlice t 1 #[(0, .tmp x)]) (hid : oi.dst = some p) (hig : oi.guard = none)
    (hk' : ops[k]? = some ok) (hko : ok.op = .call { callee := .builtin .append, args := #[.tmp s, .tmp p], argTypes := #[t, t] }) (hkd : ok.dst = some q) (hkg : ok.guard = none) (hm' : ops[m]? = some om) (hmo : om.op = .assign (.tmp q)) (hmd : om.dst = some r) (hmg : om.guard = none) (hn : nn = f + 3)
    (base : Nat) (i0 : TypeInfo) (z : Value) (size bytes : Nat) (ht : P.underlying t = some (.slice e)) (hi : P.info? e = some i0) (hz : i0.zero = some z) (hsize : i0.size = size) (hby : i0.bytes = bytes) (hzs : z.cells.size = size) (hsz : 0 < size)
    (cells : Array Value) (hrun : ∀ w, (Instr.buildSlice t 1 #[(0, a.tmps.getD x undef)]).run P w = .ok (.slice (some ⟨w.heap.size, 0, none⟩) 1 1) (w.alloc (.cells cells e))) (hc : cells.size = size) (h1 : cells.all (·.oneCell') = true)
    (v : Value) (n : Nat) (xs : List Value) (hs : a.tmps.getD s undef = v) (hp : p < a.tmps.size) (hq : q < a.tmps.size) (hown : w.ownsRow base e size v n xs) (h63 : n + 1 ≤ maxLen) (hbytes : (n + 1) * bytes ≤ 140737488355328) (hbase : base ≤ w.heap.size)
    (hE : E k = true → ∀ g, v.ownBlock = some g → ¬ S g) (hS : ∀ k, S k → k < w.heap.size)
    (h : ∀ g v' w', w'.ownsRow base e size v' (n + 1) (xs ++ cells.toList) → w.grownBy w' v.ownBlock → Q (((a.put (some p) (.slice (some ⟨g, 0, none⟩) 1 1)).put (some q) v').put (some r) v') w') : anyR P md ops S E Q nn l0 a w := by
  subst hn
  simp only [pushB, Bool.and_eq_true, beq_iff_eq, List.isEmpty_iff] at hb
  obtain ⟨⟨⟨r1, r2⟩, r3⟩, r4⟩ := hb
  have upS : ∀ w' : World, w.heap.size ≤ w'.heap.size → ∀ k, S k → k < w'.heap.size := fun w' hw k hk => Nat.lt_of_lt_of_le (hS k hk) hw
  refine anyR_one i _ r1 (beq_self_eq_true _) fun w1 l1 => opR_build1 hi' hio hid hig (hrun w1) (upS _ l1.size) ?_
  refine anyR_one k _ r2 (beq_self_eq_true _) fun w2 l2 => ?_
  have hsz2 := l2.size
  simp only [World.size_alloc] at hsz2
  have hsz1 := l1.size
  have hbk := blk_later (Blk.new w1 e cells) l2
  have hown2 : w2.ownsRow base e size v n xs := own_later ((own_later hown l1).alloc _) l2
  have grow2 : w.grownBy w2 v.ownBlock := later_grown (grown_later l1 (World.grownBy_alloc w1 _ _)) l2
  refine opR_append hk' hko hkd hkg base e i0 z size bytes ht hi hz hsize hby hzs hsz v n xs (by rw [getD_put_ne hps]; exact hs) hown2 ⟨w1.heap.size, 0, none⟩ 1 1 cells.toList (getD_put hp) (by simp [hc]) (fun j u hu => ?_)
    (fun u hu => (Array.all_eq_true_iff_forall_mem.1 h1) u (by simpa using hu)) h63 hbytes (by omega) hE (upS _ (by omega)) fun v' w' hown' hg' => ?_
  · have := hbk.cell j
    rw [show (⟨w1.heap.size, 0, none⟩ : Addr).add j = ⟨w1.heap.size, j, none⟩ by unfold Addr.add; split <;> simp_all]
    rw [this]; simpa using hu
  · refine anyR_one m _ r3 (beq_self_eq_true _) fun w3 l3 => opR_assign hm' hmo hmd hmg ?_
    refine anyR_done r4 fun w4 l4 => ?_
    rw [getD_put (by rw [size_put']; exact hq)]
    have g' : w.grownBy w' v.ownBlock := ⟨hg'.os.trans grow2.os, hg'.tape.trans grow2.tape, hg'.output.trans grow2.output, Nat.le_trans grow2.size hg'.size, fun i hi hne => (hg'.block i (Nat.lt_of_lt_of_le hi grow2.size) hne).trans (grow2.block i hi hne)⟩
    exact h _ _ _ (own_later hown' (l3.trans l4)) (later_grown g' (l3.trans l4))

/-- A store into some cells of a block that is known whole. -/
theorem exec_store_at {o : Oper} {t t' : TypeId} {p x : Operand} {g off : Nat} {old cells : Array Value} (h : o.op = .store t p x) {e : Operand → Value} {w : World} (hp : e p = .pointer (some ⟨g, off, none⟩)) (hx : e x = .agg cells)
    (hg : Blk w g t' old) (hi : (P.info? t).map (·.size) = some cells.size) (ho : off + cells.size ≤ old.size) (h1 : cells.all (·.oneCell') = true) :
    (execOp e o).run P w = .ok .skip (w.setRow g (old.toList.take off ++ cells.toList ++ old.toList.drop (off + cells.size)).toArray) := by
  have := run_storeCells_at (P := P) g off t' cells.toList 0 old w hg (by simp; omega) (fun v hv => (Array.all_eq_true_iff_forall_mem.1 h1) v (by simpa using hv))
  simp at this
  cases hq : P.info? t with
  | none => simp [hq] at hi
  | some i =>
    have hs : i.size = cells.size := by simpa [hq] using hi
    simp [execOp, h, hp, hx, go_sem, sizeOf, typeInfo, hq, hs, this]
/-- Some cells of a block are filled, behind all else. -/
theorem anyR_fill_at {Q : Act → World → Prop} {f n : Nat} {listed : Array Bool} {a : Act} {w : World} (i : Nat) (t t' : TypeId) (p x : Tmp) (g off : Nat) (old cells new : Array Value) (hb : rem0B md ops listed i t p x = true) (hn : n = f + 1)
    (hp : a.tmps.getD p undef = .pointer (some ⟨g, off, none⟩)) (hx : a.tmps.getD x undef = .agg cells) (hg : Blk w g t' old) (hi : (P.info? t).map (·.size) = some cells.size) (ho : off + cells.size ≤ old.size) (h1 : cells.all (·.oneCell') = true)
    (hnew : (old.toList.take off ++ cells.toList ++ old.toList.drop (off + cells.size)).toArray = new) (hE : E i = true → ¬ S g)
    (h : ∀ w', w.grownBy w' (some g) → Blk w' g t' new → Q a w') : anyR P md ops S E Q n listed a w := by
  subst hn
  subst hnew
  simp only [rem0B, Bool.and_eq_true, beq_iff_eq, List.isEmpty_iff] at hb
  obtain ⟨⟨r1, r2⟩, hs⟩ := hb
  refine anyR_one i _ r1 (beq_self_eq_true _) fun w1 h1' => ?_
  unfold isStore at hs
  split at hs
  · rename_i t1 p1 x1 ty pos aft heq
    simp only [Bool.and_eq_true, beq_iff_eq] at hs
    obtain ⟨⟨rfl, rfl⟩, rfl⟩ := hs
    refine opR_of heq rfl ?_
    rw [exec_store_at (P := P) (o := ⟨none, .store t1 (.tmp p1) (.tmp x1), ty, pos, aft, none⟩) rfl (e := a.eval) (w := w1) hp hx (blk_later hg h1') hi ho h1]
    refine ⟨fun he => kept_setRow (hE he), ?_⟩
    exact anyR_done r2 fun w2 h2 => h w2 (later_grown (grown_later h1' (grown_setRow w1 g _)) h2) (blk_later (blk_setRow (blk_later hg h1')) h2)
  · cases hs
end
theorem own_ne {w : World} {base g : Nat} {e t : TypeId} {size n : Nat} {v : Value} {xs : List Value} {cs : Array Value} (h : w.ownsRow base e size v n xs) (hg : Blk w g t cs) (hne : e ≠ t) : v.ownBlock ≠ some g := by
  rcases h.2 with ⟨rfl, _⟩ | ⟨g', cap, cur, rfl, _, hh, _⟩
  · simp [Value.ownBlock]
  · intro he
    have : g' = g := by simpa [Value.ownBlock] using he
    subst this
    unfold Blk at hg
    rw [hg] at hh
    injection hh with hh
    injection hh with _ ht
    exact hne ht.symm
theorem blk_grown {w w' : World} {g : Nat} {t : TypeId} {cs : Array Value} {row : Option Nat} (h : Blk w g t cs) (hg : w.grownBy w' row) (hne : row ≠ some g) : Blk w' g t cs := (hg.block g h.lt (Ne.symm hne)).trans h
theorem below_grown {B : Nat} {a w w' : World} {row : Option Nat} (h : Below B a w) (hg : w.grownBy w' row) (hB : B ≤ w.heap.size) (hr : ∀ k, row = some k → B ≤ k) : Below B a w' := h.grown hg hB hr
theorem own_grown {w w' : World} {base : Nat} {e : TypeId} {size n : Nat} {v : Value} {xs : List Value} {row : Option Nat} (h : w.ownsRow base e size v n xs) (hg : w.grownBy w' row) (hne : v.ownBlock ≠ row) : w'.ownsRow base e size v n xs := h.kept hg (.inr hne)
end Go.Proofs.Ytllpffkifleigaa
end
section
namespace Go.Proofs.Ytllpffkifleigaa
open Go Go.RowKit
/-- The world at a call, under a name. -/
theorem at_world {P : Program} {f : FuncId} {args : Array Value} {w : World} {R : Ending → World → Prop} (h : ∀ W, W = w → Calls P f args W R) : Calls P f args w R := h w rfl
theorem code_world {P : Program} {c : Code} {Q : Exit → Act → World → Prop} {a : Act} {w : World} (h : ∀ W, W = w → c.wp P Q a W) : c.wp P Q a w := h w rfl
theorem own_form {w : World} {base : Nat} {e : TypeId} {size n : Nat} {v : Value} {xs : List Value} (h : w.ownsRow base e size v n xs) (hn : 0 < n) : ∃ g cap, v = .slice (some ⟨g, 0, none⟩) n cap := by
  rcases h.2 with ⟨_, h0⟩ | ⟨g, cap, _, hv, _⟩
  · omega
  · exact ⟨g, cap, hv⟩
section
variable {P : Program} {md : Region.Mode} {ops : Array Oper} {S : Nat → Prop} {E : Nat → Bool}

/-- The one operation that can come up lays a new block. -/
theorem anyR_new {Q : Act → World → Prop} {f n : Nat} {listed : Array Bool} {a : Act} {w : World} (i : Nat) (after : Array Bool) (hr : Region.ready md ops listed = [i]) (he : (listed.setIfInBounds i true == after) = true) (hn : n = f + 1)
    {oi : Oper} (h : ops[i]? = some oi) {p : Tmp} (hd : oi.dst = some p) (hw : Region.wanted oi (yielded ops a.tmps) = true) (t : TypeId) (cells : Array Value) (v : Nat → Value)
    (hrun : ∀ w, (execOp a.eval oi).run P w = .ok (.value (v w.heap.size)) (w.alloc (.cells cells t))) (hS : ∀ k, S k → k < w.heap.size)
    (hK : ∀ w1, Later w w1 → anyR P md ops S E Q f after (a.put (some p) (v w1.heap.size)) (w1.alloc (.cells cells t))) : anyR P md ops S E Q n listed a w := by
  subst hn
  refine anyR_one i after hr he fun w1 l1 => ?_
  unfold opR
  simp only [h, hw, if_true, hrun, uponR]
  exact ⟨fun _ => kept_alloc _ (fun k hk => Nat.lt_of_lt_of_le (hS k hk) l1.size), by rw [hd]; exact hK w1 l1⟩

/-- The one operation that can come up is a call that leaves old memory alone. -/
theorem anyR_call {Q : Act → World → Prop} {f n : Nat} {listed : Array Bool} {a : Act} {w : World} (i : Nat) (after : Array Bool) (hr : Region.ready md ops listed = [i]) (he : (listed.setIfInBounds i true == after) = true) (hn : n = f + 1)
    {oi : Oper} (h : ops[i]? = some oi) {p : Tmp} (hd : oi.dst = some p) (hw : Region.wanted oi (yielded ops a.tmps) = true) (g : FuncId) (args : Array Value)
    (hrun : ∀ w, (execOp a.eval oi).run P w = .ok (.enter g args) w) (hS : ∀ k, S k → k < w.heap.size) (R : Value → World → World → Prop)
    (hc : ∀ w1, Later w w1 → Calls P g args w1 fun e w2 => ∃ v, e = .returned v ∧ Below w1.heap.size w1 w2 ∧ R v w1 w2)
    (hK : ∀ v w1 w2, Later w w1 → Later w w2 → R v w1 w2 → anyR P md ops S E Q f after (a.put (some p) v) w2) : anyR P md ops S E Q n listed a w := by
  subst hn
  refine anyR_one i after hr he fun w1 l1 => ?_
  unfold opR
  simp only [h, hw, if_true, hrun, uponR]
  refine (hc w1 l1).mono ?_
  rintro e w2 ⟨v, rfl, hb, hR⟩
  exact ⟨v, rfl, fun _ => Kept.of_later (fun k hk => Nat.lt_of_lt_of_le (hS k hk) l1.size) hb, by rw [hd]; exact hK v w1 w2 l1 (l1.trans hb) hR⟩

/-- More blocks are kept: for what is still to come. -/
theorem anyR_sub {S' : Nat → Prop} {Q : Act → World → Prop} (hs : ∀ k, S k → S' k) : ∀ {f : Nat} {listed : Array Bool} {a : Act} {w : World}, anyR P md ops S' E Q f listed a w → anyR P md ops S E Q f listed a w
  | 0, _, _, _, h => h
  | f + 1, listed, a, w, h => ⟨h.1, fun i hi w1 l1 => by
    have hh := h.2 i hi w1 l1
    have kk : ∀ w', Kept S' w1 w' → Kept S w1 w' := fun w' k => ⟨k.os, k.tape, k.output, k.size, fun b hb => k.block b (hs b hb)⟩
    unfold opR at *
    split
    · rename_i ho; simp only [ho] at hh; exact anyR_sub hs hh
    · rename_i o ho
      simp only [ho] at hh
      split
      · rename_i hw
        simp only [hw, if_true] at hh
        generalize (execOp a.eval o).run P w1 = r at *
        cases r with
        | ok n w' =>
          cases n <;> simp only [uponR] at hh ⊢
          case value u => exact ⟨fun he => kk _ (hh.1 he), anyR_sub hs hh.2⟩
          case skip => exact ⟨fun he => kk _ (hh.1 he), anyR_sub hs hh.2⟩
          case enter f args => exact hh.mono fun e w'' ⟨v, he, hb, hk⟩ => ⟨v, he, fun h1 => kk _ (hb h1), anyR_sub hs hk⟩
        | halt x w' => simp only [uponR] at hh
      · rename_i hw; simp only [hw] at hh; exact anyR_sub hs hh⟩
end
end Go.Proofs.Ytllpffkifleigaa
end
section
namespace Go.Proofs.Ytllpffkifleigaa
open Go Go.RowKit

/-- What a hard operation is free to choose: addresses and capacities. -/
abbrev Par := Nat → Option Addr × Nat
/-- The static side of a hard operation: its number, the hard operation whose memory it takes over, those whose facts it is given, those on whose choices its own fact may depend. -/
structure St where
  i : Nat
  tgt : Option Nat
  need : List Nat
  dep : List Nat

def upd (x : Nat → Par) (i : Nat) (y : Par) : Nat → Par := fun j => if j = i then y else x j
theorem upd_same (x : Nat → Par) (i : Nat) (y : Par) : upd x i y i = y := by simp [upd]
theorem upd_ne (x : Nat → Par) {i j : Nat} (y : Par) (h : j ≠ i) : upd x i y j = x j := by simp [upd, h]

def bEdges (md : Region.Mode) (o : Oper) : List Nat := (o.after.toList.filter (Region.binds md ·)).map (·.on)
def insL (a : Nat) (l : List Nat) : List Nat := if l.contains a then l else a :: l
/-- A table of operations that have come up before each one: each by an edge, or by one of an edge's own. -/
def ancOK (md : Region.Mode) (lops : List Oper) (an : List (List Nat)) : Bool :=
  (List.range an.length).all fun i => (an.getD i []).all fun j => match lops[i]? with
    | some o => (bEdges md o).any fun e => e == j || (decide (e < i) && (an.getD e []).contains j)
    | none => false
def slotOf (a : Act) (o : Oper) : Value := match o.dst with | some d => a.tmps.getD d undef | none => undef
def callB (o : Oper) : Bool := match o.op with | .call _ => true | _ => false

def regB (md : Region.Mode) (lops : List Oper) (an : List (List Nat)) (m1 m2 : List Bool) (st : List St) : Bool :=
  let hl := st.map (·.i)
  let ops := lops.toArray
  let rg := List.range lops.length
  ancOK md lops an && Region.noSelect ops && dstB lops &&
  (rg.all fun i => match lops[i]? with
    | some o => (bEdges md o).all (fun j => decide (j < i)) && (rg.all fun j => match (lops[j]?).bind (·.dst) with
        | some d => !(o.looksAt ops).contains d || ((bEdges md o).contains j && !(m1.getD i false && m2.getD j false))
        | none => true)
    | none => false) &&
  (rg.all fun i => (if m1.getD i false then !m2.getD i false && !hl.contains i else if m2.getD i false then !hl.contains i else hl.contains i)) &&
  (decide (m1.length = lops.length) && decide (m2.length = lops.length)) &&
  (st.all fun s => decide (s.i < lops.length) && (s.need.all fun j => (an.getD s.i []).contains j && hl.contains j && decide (j ≠ s.i) && st.all fun s' => (match s'.tgt with | some t => t != j | none => true) || s'.i == s.i) &&
    (s.dep.all fun j => (an.getD s.i []).contains j && hl.contains j) && (match s.tgt with | some t => s.need.contains t | none => true))

section anc
variable {md : Region.Mode} {lops : List Oper} {an : List (List Nat)}
theorem anc_spec (h : ancOK md lops an = true) (i j : Nat) (hj : j ∈ an.getD i []) : ∃ o, lops[i]? = some o ∧ ∃ e ∈ bEdges md o, e = j ∨ (e < i ∧ j ∈ an.getD e []) := by
  have hi : i < an.length := by
    rcases Nat.lt_or_ge i an.length with h | h
    · exact h
    · simp [List.getD, List.getElem?_eq_none h] at hj
  have h1 := List.all_eq_true.1 (List.all_eq_true.1 h i (List.mem_range.2 hi)) j hj
  split at h1
  · rename_i o ho
    obtain ⟨e, he, h2⟩ := List.any_eq_true.1 h1
    refine ⟨o, ho, e, he, ?_⟩
    simp only [Bool.or_eq_true, beq_iff_eq, Bool.and_eq_true, decide_eq_true_eq] at h2
    rcases h2 with h2 | ⟨h2, h3⟩
    · exact .inl h2
    · exact .inr ⟨h2, by simpa using h3⟩
  · cases h1
theorem bEdges_spec {o : Oper} {j : Nat} : j ∈ bEdges md o ↔ ∃ e ∈ o.after, Region.binds md e = true ∧ e.on = j := by
  unfold bEdges
  simp [List.mem_map, List.mem_filter, and_assoc]
theorem anc_listed {L : Array Bool} (hA : ancOK md lops an = true) (hc : Closed md lops.toArray L) : ∀ (i : Nat) (o : Oper), lops[i]? = some o → (∀ e ∈ bEdges md o, L.getD e false = true) → ∀ j ∈ an.getD i [], L.getD j false = true := by
  intro i
  induction i using Nat.strongRecOn with
  | _ i ih =>
    intro o ho hall j hj
    obtain ⟨o', ho', e, he, h'⟩ := anc_spec hA i j hj
    have : o' = o := Option.some.inj (ho'.symm.trans ho)
    subst this
    have hLe := hall e he
    rcases h' with rfl | ⟨hlt, h'⟩
    · exact hLe
    · obtain ⟨oe, hoe, _⟩ := anc_spec hA e j h'
      refine ih e hlt oe hoe (fun e' he' => ?_) j h'
      obtain ⟨x, hx, hb, hon⟩ := bEdges_spec.1 he'
      have := hc.2 e oe (by simpa using hoe) hLe x hx hb
      rw [hon] at this
      exact this
end anc

/-- The run of a hard operation: a value and a world, or a call that comes back with them. -/
def HRun (P : Program) (o : Oper) (a : Act) (w : World) (K : Value → World → Prop) : Prop :=
  match (execOp a.eval o).run P w with
  | .ok (.value v) w' => K v w'
  | .ok .skip w' => K undef w'
  | .ok (.enter f args) w' => Calls P f args w' fun e w'' => ∃ v, e = .returned v ∧ K v w''
  | _ => False

theorem exec_agree {o : Oper} (hs : ∀ cs b, o.op ≠ .select cs b) {ops : Array Oper} {a b : Act} (h : ∀ t ∈ o.looksAt ops, a.tmps[t]? = b.tmps[t]?) : execOp a.eval o = execOp b.eval o :=
  execOp_congr o hs fun x hx => by
    cases x with
    | tmp t =>
      have := h t (List.mem_append_left _ (List.mem_filterMap.2 ⟨.tmp t, by simpa using hx, rfl⟩))
      simp only [Act.eval, Array.getD_eq_getD_getElem?, this]
    | _ => rfl
theorem wanted_agree {o : Oper} {ops : Array Oper} {a b : Act} (h : ∀ t ∈ o.looksAt ops, a.tmps[t]? = b.tmps[t]?) : Region.wanted o (yielded ops a.tmps) = Region.wanted o (yielded ops b.tmps) := by
  unfold Region.wanted
  cases hg : o.guard with
  | none => rfl
  | some gw =>
    obtain ⟨g, want⟩ := gw
    have hy : yielded ops a.tmps g = yielded ops b.tmps g := by
      unfold yielded
      cases ht : (ops[g]?).bind (·.dst) with
      | none => rfl
      | some t =>
        have := h t (by simp [Oper.looksAt, hg, ht])
        simp [this]
    simp only [hy]

theorem run_value_ne {s : Sem Value} {P : Program} {w w' : World} {f : FuncId} {args : Array Value} : ((do pure (Next.value (← s))) : Sem Next).run P w ≠ .ok (.enter f args) w' := by
  rw [Sem.run_bind]
  cases s.run P w with
  | ok v w1 => simp [Result.andThen]
  | halt x w1 => simp [Result.andThen]
theorem run_skip_ne {s : Sem Unit} {P : Program} {w w' : World} {f : FuncId} {args : Array Value} : ((do s; pure Next.skip) : Sem Next).run P w ≠ .ok (.enter f args) w' := by
  rw [Sem.run_bind]
  cases s.run P w with
  | ok v w1 => simp [Result.andThen]
  | halt x w1 => simp [Result.andThen]


/-! ### The static side, as facts -/
theorem dst_one : ∀ (l : List Oper), dstB l = true → ∀ (i j : Nat) (oi oj : Oper) (d : Tmp), l[i]? = some oi → l[j]? = some oj → oi.dst = some d → oj.dst = some d → i = j
  | [], _, i, _, _, _, _, hi, _, _, _ => by simp at hi
  | o :: l, h, i, j, oi, oj, d, hi, hj, di, dj => by
    simp only [dstB, Bool.and_eq_true, List.all_eq_true] at h
    have far : ∀ (k : Nat) (ok : Oper), l[k]? = some ok → o.dst = some d → ok.dst = some d → False := fun k ok hk h1 h2 => by
      have := h.1 ok (List.mem_of_getElem? hk)
      rw [h1, h2] at this
      simp at this
    cases i with
    | zero => cases j with
      | zero => rfl
      | succ j =>
        have e : o = oi := by simpa using hi
        subst e
        exact absurd dj (fun dj => far j oj (by simpa using hj) di dj)
    | succ i => cases j with
      | zero =>
        have e : o = oj := by simpa using hj
        subst e
        exact absurd di (fun di => far i oi (by simpa using hi) dj di)
      | succ j => exact congrArg (· + 1) (dst_one l h.2 i j oi oj d (by simpa using hi) (by simpa using hj) di dj)

structure Chk (lops : List Oper) (an : List (List Nat)) (m1 m2 : List Bool) (st : List St) : Prop where
  anc : ancOK .any lops an = true
  nosel : ∀ (j : Nat) (o : Oper) cs b, lops[j]? = some o → o.op ≠ .select cs b
  dst : dstB lops = true
  back : ∀ i o, lops[i]? = some o → ∀ e ∈ bEdges .any o, e < i
  reads : ∀ i o j oj d, lops[i]? = some o → lops[j]? = some oj → oj.dst = some d → d ∈ o.looksAt lops.toArray → j ∈ bEdges .any o ∧ ¬ (m1.getD i false = true ∧ m2.getD j false = true)
  kind1 : ∀ i, i < lops.length → m1.getD i false = true → m2.getD i false = false ∧ ∀ s ∈ st, s.i ≠ i
  kind2 : ∀ i, i < lops.length → m2.getD i false = true → m1.getD i false = false ∧ ∀ s ∈ st, s.i ≠ i
  kind3 : ∀ i, i < lops.length → (∀ s ∈ st, s.i ≠ i) → m1.getD i false = true ∨ m2.getD i false = true
  len1 : m1.length = lops.length
  len2 : m2.length = lops.length
  lt : ∀ s ∈ st, s.i < lops.length
  need : ∀ s ∈ st, ∀ j ∈ s.need, j ∈ an.getD s.i [] ∧ (∃ s' ∈ st, s'.i = j) ∧ j ≠ s.i ∧ ∀ s' ∈ st, s'.tgt = some j → s'.i = s.i
  dep : ∀ s ∈ st, ∀ j ∈ s.dep, j ∈ an.getD s.i [] ∧ ∃ s' ∈ st, s'.i = j
  tgt : ∀ s ∈ st, ∀ t, s.tgt = some t → t ∈ s.need
theorem chk_of {lops : List Oper} {an : List (List Nat)} {m1 m2 : List Bool} {st : List St} (h : regB .any lops an m1 m2 st = true) : Chk lops an m1 m2 st := by
  simp only [regB, Bool.and_eq_true] at h
  obtain ⟨⟨⟨⟨⟨⟨h0, h1⟩, h2⟩, h3⟩, h4⟩, h5, h6⟩, h7⟩ := h
  have mem : ∀ i, (st.map (·.i)).contains i = true ↔ ∃ s ∈ st, s.i = i := fun i => by simp
  have mem' : ∀ i, (st.map (·.i)).contains i = false ↔ ∀ s ∈ st, s.i ≠ i := fun i => by simp
  have k3 := List.all_eq_true.1 h3
  have k4 := List.all_eq_true.1 h4
  have k7 := List.all_eq_true.1 h7
  have lt_of : ∀ {i : Nat} {o : Oper}, lops[i]? = some o → i ∈ List.range lops.length := fun ho => List.mem_range.2 (List.getElem?_eq_some_iff.1 ho).1
  refine ⟨h0, fun j o cs b ho => Region.noSelect_spec h1 j o cs b (by simpa using ho), h2, fun i o ho e he => ?_, fun i o j oj d ho hoj hd hm => ?_, fun i hi hm => ?_, fun i hi hm => ?_, fun i hi hm => ?_, of_decide_eq_true h5, of_decide_eq_true h6, fun s hs => ?_, fun s hs j hj => ?_, fun s hs j hj => ?_, fun s hs t ht => ?_⟩
  · have := k3 i (lt_of ho)
    simp only [ho, Bool.and_eq_true] at this
    exact of_decide_eq_true ((List.all_eq_true.1 this.1) e he)
  · have := k3 i (lt_of ho)
    simp only [ho, Bool.and_eq_true] at this
    have := (List.all_eq_true.1 this.2) j (lt_of hoj)
    have e : (lops[j]?).bind (·.dst) = some d := by rw [hoj]; exact hd
    rw [e] at this
    simp only [Bool.or_eq_true, Bool.not_eq_true', Bool.and_eq_true] at this
    rcases this with h | ⟨h, h'⟩
    · simp at h; exact absurd hm h
    · exact ⟨by simpa using h, fun ⟨a, b⟩ => by rw [a, b] at h'; cases h'⟩
  · have := k4 i (List.mem_range.2 hi)
    rw [hm] at this
    simp only [if_true, Bool.and_eq_true, Bool.not_eq_true'] at this
    exact ⟨this.1, (mem' i).1 this.2⟩
  · have := k4 i (List.mem_range.2 hi)
    cases hm1 : m1.getD i false with
    | true =>
      rw [hm1, hm] at this
      simp at this
    | false =>
      rw [hm1, hm] at this
      simp only [if_true, Bool.false_eq_true, if_false, Bool.not_eq_true'] at this
      exact ⟨rfl, (mem' i).1 this⟩
  · have := k4 i (List.mem_range.2 hi)
    cases hm1 : m1.getD i false with
    | true => exact .inl rfl
    | false =>
      cases hm2 : m2.getD i false with
      | true => exact .inr rfl
      | false =>
        rw [hm1, hm2] at this
        simp only [Bool.false_eq_true, if_false] at this
        obtain ⟨s, hs, e⟩ := (mem i).1 this
        exact absurd e (hm s hs)
  · have := k7 s hs
    simp only [Bool.and_eq_true] at this
    exact of_decide_eq_true this.1.1.1
  · have := k7 s hs
    simp only [Bool.and_eq_true] at this
    have := (List.all_eq_true.1 this.1.1.2) j hj
    simp only [Bool.and_eq_true] at this
    refine ⟨by simpa using this.1.1.1, (mem j).1 this.1.1.2, of_decide_eq_true this.1.2, fun s' hs' ht => ?_⟩
    have := (List.all_eq_true.1 this.2) s' hs'
    rw [ht] at this
    simpa using this
  · have := k7 s hs
    simp only [Bool.and_eq_true] at this
    have := (List.all_eq_true.1 this.1.2) j hj
    simp only [Bool.and_eq_true] at this
    exact ⟨by simpa using this.1, (mem j).1 this.2⟩
  · have := k7 s hs
    simp only [Bool.and_eq_true] at this
    have := this.2
    rw [ht] at this
    simpa using this

/-! ### What is asked, and what follows -/
def Eb (an : List (List Nat)) (st : List St) (wr : Nat → Nat → Prop) (i k : Nat) : Prop := ∀ s ∈ st, wr s.i k → s.i = i ∨ i ∈ an.getD s.i []
def tgtF (s : St) (F : Nat → Nat → Prop) (k : Nat) : Prop := match s.tgt with | some t => F t k | none => False
def Holds (a : Act) (o : Oper) (v : Value) : Prop := ∀ d, o.dst = some d → d < a.tmps.size → a.tmps[d]? = some v

structure AfOk (P : Program) (lops : List Oper) (an : List (List Nat)) (st : List St) (wr : Nat → Nat → Prop) (w0 : World) (a0 : Act) (af : (Nat → Par) → Act) (shape : Nat → Par → Value) : Prop where
  size : ∀ x, (af x).tmps.size = a0.tmps.size
  defers : ∀ x, (af x).defers = a0.defers
  out : ∀ x d, (∀ o ∈ lops, o.dst ≠ some d) → (af x).tmps[d]? = a0.tmps[d]?
  hard : ∀ x, ∀ s ∈ st, ∀ o, lops[s.i]? = some o → Holds (af x) o (shape s.i (x s.i))
  quiet : ∀ x i o, lops[i]? = some o → (∀ s ∈ st, s.i ≠ i) → ∀ D, Good (fun k => k < w0.heap.size ∧ Eb an st wr i k) w0 D → ∃ v, Holds (af x) o v ∧ YieldsIn P lops.toArray D o v (af x)
  call : ∀ x x' i o, lops[i]? = some o → (∀ s ∈ st, s.i ≠ i) → (∀ (a : Act) w f args w', (execOp a.eval o).run P w ≠ .ok (.enter f args) w') ∨ slotOf (af x) o = slotOf (af x') o

def Obl (P : Program) (lops : List Oper) (an : List (List Nat)) (st : List St) (wr : Nat → Nat → Prop) (w0 : World) (af : (Nat → Par) → Act) (shape : Nat → Par → Value) (R : Nat → (Nat → Par) → (Nat → Prop) → World → Prop) (s : St) : Prop :=
  ∀ (x : Nat → Par) (w : World) (F : Nat → Nat → Prop), Kept (fun k => k < w0.heap.size ∧ Eb an st wr s.i k) w0 w → (∀ j ∈ s.need, (∀ k, F j k → k < w.heap.size) ∧ R j x (F j) w) →
    ∃ o, lops[s.i]? = some o ∧ Region.wanted o (yielded lops.toArray (af x).tmps) = true ∧ HRun P o (af x) w fun v w' => ∃ y G, v = shape s.i y ∧
      Kept (fun k => k < w.heap.size ∧ ¬ (wr s.i k ∨ tgtF s F k)) w w' ∧ (∀ k, G k → k < w'.heap.size ∧ (w.heap.size ≤ k ∨ wr s.i k ∨ tgtF s F k)) ∧ R s.i (upd x s.i y) G w'
def Live (st : List St) (L : Array Bool) (h : Nat) : Prop := ∀ s ∈ st, s.tgt = some h → L.getD s.i false = false
def Mix (lops : List Oper) (a0 : Act) (b : Act) (L : Array Bool) (a : Act) : Prop :=
  a.defers = a0.defers ∧ a.tmps.size = a0.tmps.size ∧ ∀ d, ((∃ i o, lops[i]? = some o ∧ L.getD i false = true ∧ o.dst = some d) → a.tmps[d]? = b.tmps[d]?) ∧ ((∀ i o, lops[i]? = some o → o.dst = some d → L.getD i false = false) → a.tmps[d]? = a0.tmps[d]?)

structure Inv (lops : List Oper) (st : List St) (wr : Nat → Nat → Prop) (w0 : World) (a0 : Act) (af : (Nat → Par) → Act) (R : Nat → (Nat → Par) → (Nat → Prop) → World → Prop) (c : Nat → Par) (F : Nat → Nat → Prop) (L : Array Bool) (a : Act) (w : World) : Prop where
  closed : Closed .any lops.toArray L
  kept : Kept (fun k => k < w0.heap.size ∧ ∀ s ∈ st, L.getD s.i false = true → ¬ wr s.i k) w0 w
  mix : ∀ x, (∀ s ∈ st, L.getD s.i false = true → x s.i = c s.i) → Mix lops a0 (af x) L a
  foot : ∀ s ∈ st, L.getD s.i false = true → ∀ k, F s.i k → k < w.heap.size ∧ (w0.heap.size ≤ k ∨ ∃ s2 ∈ st, L.getD s2.i false = true ∧ wr s2.i k)
  apart : ∀ s ∈ st, ∀ s' ∈ st, L.getD s.i false = true → L.getD s'.i false = true → s.i ≠ s'.i → Live st L s.i → Live st L s'.i → ∀ k, F s.i k → ¬ F s'.i k
  fact : ∀ s ∈ st, L.getD s.i false = true → Live st L s.i → R s.i c (F s.i) w

def unl (L : Array Bool) (n : Nat) : Nat := ((List.range n).filter fun i => !L.getD i true).length
theorem filter_lt {p q : Nat → Bool} : ∀ (l : List Nat) (i : Nat), i ∈ l → p i = true → q i = false → (∀ j, q j = true → p j = true) → (l.filter q).length < (l.filter p).length
  | [], i, hi, _, _, _ => by cases hi
  | a :: l, i, hi, hp, hq, hle => by
    have le : ∀ (l : List Nat), (l.filter q).length ≤ (l.filter p).length := fun l => by
      induction l with
      | nil => simp
      | cons b l ih =>
        by_cases hb : q b = true
        · simp [hb, hle b hb]; exact ih
        · cases hpb : p b <;> simp [hb, hpb] <;> omega
    rcases List.mem_cons.1 hi with rfl | hi
    · simp [hp, hq]; have := le l; omega
    · have := filter_lt l i hi hp hq hle
      by_cases hb : q a = true
      · simp [hb, hle a hb]; exact this
      · cases hpb : p a <;> simp [hb, hpb] <;> omega
theorem unl_set {L : Array Bool} {n i : Nat} (hi : i < n) (hL : L.getD i true = false) : unl (L.setIfInBounds i true) n < unl L n := by
  have hs : i < L.size := by
    rcases Nat.lt_or_ge i L.size with h | h
    · exact h
    · simp [Array.getElem?_eq_none h] at hL
  refine filter_lt _ i (List.mem_range.2 hi) (by rw [hL]; rfl) (by simp [Array.getD, hs]) (fun j hj => ?_)
  by_cases hij : i = j
  · subst hij; rw [hL]; rfl
  · rw [getD_set_ne true hij] at hj; exact hj
end Go.Proofs.Ytllpffkifleigaa
end
section
namespace Go.Proofs.Ytllpffkifleigaa
open Go Go.RowKit

/-- The memory of two facts that stand at the end is not the same. -/
def Aparts (st : List St) (F : Nat → Nat → Prop) : Prop := ∀ s ∈ st, ∀ s' ∈ st, s.i ≠ s'.i → (∀ t ∈ st, t.tgt ≠ some s.i) → (∀ t ∈ st, t.tgt ≠ some s'.i) → ∀ k, F s.i k → ¬ F s'.i k

section
variable {P : Program} {lops : List Oper} {an : List (List Nat)} {m1 m2 : List Bool} {st : List St} {w0 : World} {a0 : Act} {af : (Nat → Par) → Act} {shape : Nat → Par → Value} {wr : Nat → Nat → Prop} {R : Nat → (Nat → Par) → (Nat → Prop) → World → Prop}

theorem put_at {a : Act} {d : Tmp} {v : Value} (e : Tmp) : (a.put (some d) v).tmps[e]? = if d = e then (if d < a.tmps.size then some v else none) else a.tmps[e]? := by
  simp only [Act.put, Array.getElem?_setIfInBounds]
theorem put_size (a : Act) (d : Option Tmp) (v : Value) : (a.put d v).tmps.size = a.tmps.size := by cases d <;> simp [Act.put]
theorem put_defers (a : Act) (d : Option Tmp) (v : Value) : (a.put d v).defers = a.defers := by cases d <;> rfl
theorem put_far {a : Act} {o : Option Tmp} {v : Value} {e : Tmp} (h : o ≠ some e) : (a.put o v).tmps[e]? = a.tmps[e]? := by
  cases o with
  | none => rfl
  | some d => rw [put_at, if_neg (fun e' => h (by rw [e']))]

theorem mix_put {b a : Act} {L : Array Bool} {i : Nat} {o : Oper} {v : Value} (hb : b.tmps.size = a0.tmps.size) (hm : Mix lops a0 b L a) (ho : lops[i]? = some o) (hi : i < L.size) (hv : Holds b o v) : Mix lops a0 b (L.setIfInBounds i true) (a.put o.dst v) := by
  obtain ⟨h1, h2, h3⟩ := hm
  refine ⟨(put_defers _ _ _).trans h1, (put_size _ _ _).trans h2, fun d => ⟨fun ⟨j, oj, hj, hl, hd⟩ => ?_, fun hn => ?_⟩⟩
  · by_cases e : o.dst = some d
    · rw [e, put_at, if_pos rfl]
      by_cases hlt : d < a.tmps.size
      · rw [if_pos hlt, hv d e (by rw [hb, ← h2]; exact hlt)]
      · rw [if_neg hlt, Array.getElem?_eq_none (by rw [hb, ← h2]; exact Nat.le_of_not_lt hlt)]
    · rw [put_far e]
      refine (h3 d).1 ⟨j, oj, hj, ?_, hd⟩
      have hij : i ≠ j := fun e' => by
        subst e'
        have : oj = o := Option.some.inj (hj.symm.trans ho)
        subst this; exact e hd
      rwa [getD_set_ne false hij] at hl
  · have e : o.dst ≠ some d := fun e => by
      have := hn i o ho e
      simp [Array.getD, hi] at this
    rw [put_far e]
    refine (h3 d).2 fun j oj hj hd => ?_
    have := hn j oj hj hd
    by_cases hij : i = j
    · subst hij
      simp [Array.getD, hi] at this
    · rwa [getD_set_ne false hij] at this

theorem reads_eq (hk : Chk lops an m1 m2 st) {b a : Act} (hb : ∀ d, (∀ o ∈ lops, o.dst ≠ some d) → b.tmps[d]? = a0.tmps[d]?) {L : Array Bool} (hm : Mix lops a0 b L a) {i : Nat} {o : Oper} (ho : lops[i]? = some o) (hall : ∀ e ∈ bEdges .any o, L.getD e false = true) :
    ∀ t ∈ o.looksAt lops.toArray, a.tmps[t]? = b.tmps[t]? := fun t ht => by
  by_cases h : ∃ (j : Nat) (oj : Oper), lops[j]? = some oj ∧ oj.dst = some t
  · obtain ⟨j, oj, hj, hd⟩ := h
    exact (hm.2.2 t).1 ⟨j, oj, hj, hall j (hk.reads i o j oj t ho hj hd ht).1, hd⟩
  · rw [(hm.2.2 t).2 fun j oj hj hd => absurd ⟨j, oj, hj, hd⟩ h, hb t fun oj hoj hd => ?_]
    obtain ⟨j, hj⟩ := List.mem_iff_getElem?.1 hoj
    exact h ⟨j, oj, hj, hd⟩

theorem Kept.weak {S S' : Nat → Prop} {a b : World} (h : Kept S a b) (hs : ∀ k, S' k → S k) : Kept S' a b := ⟨h.os, h.tape, h.output, h.size, fun k hk => h.block k (hs k hk)⟩

theorem set_getD {L : Array Bool} {i j : Nat} (hi : i < L.size) : (L.setIfInBounds i true).getD j false = true ↔ j = i ∨ L.getD j false = true := by
  by_cases e : i = j
  · subst e; simp [Array.getD, hi]
  · rw [getD_set_ne false e]; constructor
    · exact .inr
    · rintro (h | h)
      · exact absurd h.symm e
      · exact h

theorem all_listed (hk : Chk lops an m1 m2 st) {L : Array Bool} (hs : L.size = lops.length) (hr : Region.ready .any lops.toArray L = []) : ∀ i, i < lops.length → L.getD i false = true := by
  intro i
  induction i using Nat.strongRecOn with
  | _ i ih =>
    intro hi
    cases h : L.getD i false with
    | true => rfl
    | false =>
      obtain ⟨o, ho⟩ : ∃ o, lops[i]? = some o := ⟨lops[i], by simp [hi]⟩
      have : i ∈ Region.ready .any lops.toArray L := mem_ready.2 ⟨by simp [Array.getD, show i < L.size by omega] at h ⊢; exact h, o, by simpa using ho, fun e he hb => ih e.on (hk.back i o ho e.on (bEdges_spec.2 ⟨e, he, hb, rfl⟩)) (by have := hk.back i o ho e.on (bEdges_spec.2 ⟨e, he, hb, rfl⟩); omega)⟩
      rw [hr] at this
      cases this

theorem anyX {Q : Exit → Act → World → Prop} (hk : Chk lops an m1 m2 st) (hok : AfOk P lops an st wr w0 a0 af shape) (hob : ∀ s ∈ st, Obl P lops an st wr w0 af shape R s)
    (hst : ∀ s ∈ st, ∀ x F w w', R s.i x F w → w.heap.size ≤ w'.heap.size → (∀ k, F k → w'.heap[k]? = w.heap[k]?) → R s.i x F w')
    (hdep : ∀ s ∈ st, ∀ x x' F w, (∀ j, j = s.i ∨ j ∈ s.dep → x j = x' j) → R s.i x F w → R s.i x' F w)
    (hwl : ∀ s ∈ st, ∀ k, wr s.i k → k < w0.heap.size) (hwr : ∀ s ∈ st, ∀ s' ∈ st, s.i ≠ s'.i → ∀ k, wr s.i k → ¬ wr s'.i k)
    (hfin : ∀ (x : Nat → Par) (w : World) (F : Nat → Nat → Prop), Kept (fun k => k < w0.heap.size ∧ ∀ s ∈ st, ¬ wr s.i k) w0 w → (∀ s ∈ st, (∀ s' ∈ st, s'.tgt ≠ some s.i) → R s.i x (F s.i) w) → Aparts st F → Q .normal (af x) w) :
    ∀ (fuel : Nat) (L : Array Bool) (a : Act) (w : World) (c : Nat → Par) (F : Nat → Nat → Prop), unl L lops.length ≤ fuel → Inv lops st wr w0 a0 af R c F L a w → wpAny P .any lops.toArray Q fuel L a w := by
  have fin : ∀ (L : Array Bool) (a : Act) (w : World) (c : Nat → Par) (F : Nat → Nat → Prop), Inv lops st wr w0 a0 af R c F L a w → Region.ready .any lops.toArray L = [] → Q .normal a w := by
    intro L a w c F hi hr
    have hall := all_listed hk (by simpa using hi.closed.1) hr
    obtain ⟨h1, h2, h3⟩ := hi.mix c (fun _ _ _ => rfl)
    have ha : a = af c := by
      have e1 : a.tmps = (af c).tmps := by
        refine Array.ext_getElem? fun d => ?_
        by_cases h : ∃ (j : Nat) (oj : Oper), lops[j]? = some oj ∧ oj.dst = some d
        · obtain ⟨j, oj, hj, hd⟩ := h
          exact (h3 d).1 ⟨j, oj, hj, hall j (List.getElem?_eq_some_iff.1 hj).1, hd⟩
        · rw [(h3 d).2 fun j oj hj hd => absurd ⟨j, oj, hj, hd⟩ h, hok.out c d fun oj hoj hd => ?_]
          obtain ⟨j, hj⟩ := List.mem_iff_getElem?.1 hoj
          exact h ⟨j, oj, hj, hd⟩
      have e2 : a.defers = (af c).defers := h1.trans (hok.defers c).symm
      cases a
      generalize af c = b at *
      cases b
      simp only at e1 e2
      rw [e1, e2]
    rw [ha]
    refine hfin c w F (hi.kept.weak fun k hk' => ⟨hk'.1, fun s hs _ => hk'.2 s hs⟩) (fun s hs hl => ?_) fun s hs s' hs' hne h1 h2 => hi.apart s hs s' hs' (hall _ (hk.lt s hs)) (hall _ (hk.lt s' hs')) hne (fun t ht he => absurd he (h1 t ht)) (fun t ht he => absurd he (h2 t ht))
    exact hi.fact s hs (hall _ (hk.lt s hs)) fun s' hs' ht => absurd ht (hl s' hs')
  intro fuel
  induction fuel with
  | zero =>
    intro L a w c F hu hi
    have hr : Region.ready .any lops.toArray L = [] := by
      cases h : Region.ready .any lops.toArray L with
      | nil => rfl
      | cons i l =>
        have hm : i ∈ Region.ready .any lops.toArray L := by rw [h]; exact List.mem_cons_self
        obtain ⟨hL, o, ho, _⟩ := mem_ready.1 hm
        have := unl_set (L := L) (n := lops.length) (i := i) (by simpa using (Array.getElem?_eq_some_iff.1 ho).1) hL
        omega
    exact ⟨hr, fin L a w c F hi hr⟩
  | succ fuel ih =>
    intro L a w c F hu hi
    refine ⟨fin L a w c F hi, fun i hir => ?_⟩
    obtain ⟨hL, o, ho', hall'⟩ := mem_ready.1 hir
    have ho : lops[i]? = some o := by simpa using ho'
    have hin : i < lops.length := (List.getElem?_eq_some_iff.1 ho).1
    have his : i < L.size := by rw [hi.closed.1]; simpa using hin
    have hLf : L.getD i false = false := getD_ff hL
    have hu' : unl (L.setIfInBounds i true) lops.length ≤ fuel := by have := unl_set hin hL; omega
    have hall : ∀ e ∈ bEdges .any o, L.getD e false = true := fun e he => by
      obtain ⟨x, hx, hb, hon⟩ := bEdges_spec.1 he
      rw [← hon]; exact hall' x hx hb
    have hanc := anc_listed hk.anc hi.closed i o ho hall
    have hcl := hi.closed.set hir
    have rd : ∀ x, (∀ s ∈ st, L.getD s.i false = true → x s.i = c s.i) → ∀ t ∈ o.looksAt lops.toArray, a.tmps[t]? = (af x).tmps[t]? := fun x hx => reads_eq hk (hok.out x) (hi.mix x hx) ho hall
    have ex : ∀ x, (∀ s ∈ st, L.getD s.i false = true → x s.i = c s.i) → execOp a.eval o = execOp (af x).eval o := fun x hx => exec_agree (hk.nosel i o · · ho) (rd x hx)
    have wa : ∀ x, (∀ s ∈ st, L.getD s.i false = true → x s.i = c s.i) → Region.wanted o (yielded lops.toArray a.tmps) = Region.wanted o (yielded lops.toArray (af x).tmps) := fun x hx => wanted_agree (rd x hx)
    have cc : ∀ s ∈ st, L.getD s.i false = true → c s.i = c s.i := fun _ _ _ => rfl
    -- what is kept from the beginning for this operation
    have keptE : Kept (fun k => k < w0.heap.size ∧ Eb an st wr i k) w0 w := hi.kept.weak fun k hk' => ⟨hk'.1, fun s hs hl hw => by
      rcases hk'.2 s hs hw with e | e
      · rw [e, hLf] at hl; cases hl
      · obtain ⟨os, hos, _⟩ := anc_spec hk.anc _ _ e
        have hcs : ∀ e ∈ bEdges .any os, L.getD e false = true := fun e he => by
          obtain ⟨x, hx, hb, hon⟩ := bEdges_spec.1 he
          rw [← hon]; exact hi.closed.2 s.i os (by simpa using hos) hl x hx hb
        rw [anc_listed hk.anc hi.closed s.i os hos hcs i e] at hLf
        cases hLf⟩
    unfold wpOp
    simp only [ho']
    by_cases hhard : ∃ s ∈ st, s.i = i
    · -- a hard operation
      obtain ⟨s, hs, hsi⟩ := hhard
      have need : ∀ j ∈ s.need, (∀ k, F j k → k < w.heap.size) ∧ R j c (F j) w := fun j hj => by
        obtain ⟨h1, ⟨sj, hsj, e⟩, hne, hsup⟩ := hk.need s hs j hj
        rw [hsi] at h1
        have hLj := hanc j h1
        subst e
        refine ⟨fun k hFk => (hi.foot sj hsj hLj k hFk).1, hi.fact sj hsj hLj fun s' hs' ht => ?_⟩
        rw [hsup s' hs' ht, hsi]; exact hLf
      obtain ⟨o', ho'', hw, hrun⟩ := hob s hs c w F (by rw [hsi]; exact keptE) need
      have : o' = o := by rw [hsi, ho] at ho''; exact (Option.some.inj ho'').symm
      subst this
      rw [wa c cc, hw]
      simp only [if_true]
      left
      -- the next state
      have step : ∀ v w', (∃ y G, v = shape s.i y ∧ Kept (fun k => k < w.heap.size ∧ ¬ (wr s.i k ∨ tgtF s F k)) w w' ∧ (∀ k, G k → k < w'.heap.size ∧ (w.heap.size ≤ k ∨ wr s.i k ∨ tgtF s F k)) ∧ R s.i (upd c s.i y) G w') →
          wpAny P .any lops.toArray Q fuel (L.setIfInBounds i true) (a.put o'.dst v) w' := by
        rintro v w' ⟨y, G, rfl, hkw, hG, hR⟩
        subst hsi
        have old : ∀ s' ∈ st, L.getD s'.i false = true → s'.i ≠ s.i := fun s' _ hl e => by rw [e, hLf] at hl; cases hl
        have tgtL : ∀ t, s.tgt = some t → ∃ s' ∈ st, s'.i = t ∧ L.getD t false = true ∧ Live st L t ∧ t ≠ s.i := fun t ht => by
          obtain ⟨h1, ⟨s', hs', e⟩, hne, hsup⟩ := hk.need s hs t (hk.tgt s hs t ht)
          exact ⟨s', hs', e, hanc t h1, fun s2 hs2 ht2 => by rw [hsup s2 hs2 ht2]; exact hLf, hne⟩
        -- nothing that another live fact is about is turned
        have safe : ∀ s' ∈ st, L.getD s'.i false = true → Live st L s'.i → s.tgt ≠ some s'.i → ∀ k, F s'.i k → k < w.heap.size ∧ ¬ (wr s.i k ∨ tgtF s F k) := fun s' hs' hl hlive hnt k hFk => by
          refine ⟨(hi.foot s' hs' hl k hFk).1, fun h => ?_⟩
          rcases h with h | h
          · rcases (hi.foot s' hs' hl k hFk).2 with h2 | ⟨s2, hs2, hl2, hw2⟩
            · have := hwl s hs k h; omega
            · exact hwr s hs s2 hs2 (fun e => old s2 hs2 hl2 e.symm) k h hw2
          · unfold tgtF at h
            cases ht : s.tgt with
            | none => rw [ht] at h; exact h
            | some t =>
              rw [ht] at h
              obtain ⟨st', hst', e, hlt, hlv, _⟩ := tgtL t ht
              subst e
              exact hi.apart s' hs' st' hst' hl hlt (fun e => hnt (by rw [ht, e])) hlive hlv k hFk h
        refine ih _ _ _ (upd c s.i y) (fun j => if j = s.i then G else F j) hu' ⟨hcl, ?_, fun x hx => ?_, fun s' hs' hl k hFk => ?_, fun s1 hs1 s2 hs2 hl1 hl2 hne lv1 lv2 k h1 h2 => ?_, fun s' hs' hl hlv => ?_⟩
        · -- kept
          refine ⟨hkw.os.trans hi.kept.os, hkw.tape.trans hi.kept.tape, hkw.output.trans hi.kept.output, Nat.le_trans hi.kept.size hkw.size, fun k ⟨h1, h2⟩ => ?_⟩
          refine (hkw.block k ⟨Nat.lt_of_lt_of_le h1 hi.kept.size, fun h => ?_⟩).trans (hi.kept.block k ⟨h1, fun s' hs' hl => h2 s' hs' ((set_getD his).2 (.inr hl))⟩)
          rcases h with h | h
          · exact h2 s hs ((set_getD his).2 (.inl rfl)) h
          · unfold tgtF at h
            cases ht : s.tgt with
            | none => rw [ht] at h; exact h
            | some t =>
              rw [ht] at h
              obtain ⟨st', hst', e, hlt, hlv, _⟩ := tgtL t ht
              subst e
              rcases (hi.foot st' hst' hlt k h).2 with h3 | ⟨s2, hs2, hl2, hw2⟩
              · omega
              · exact h2 s2 hs2 ((set_getD his).2 (.inr hl2)) hw2
        · -- the frame
          have hx' : ∀ s' ∈ st, L.getD s'.i false = true → x s'.i = c s'.i := fun s' hs' hl => by
            rw [hx s' hs' ((set_getD his).2 (.inr hl)), upd_ne _ _ (old s' hs' hl)]
          have e : x s.i = y := by rw [hx s hs ((set_getD his).2 (.inl rfl)), upd_same]
          exact mix_put (hok.size x) (hi.mix x hx') ho his (by rw [← e]; exact hok.hard x s hs o' ho)
        · -- footprints
          by_cases e : s'.i = s.i
          · rw [e] at hFk
            simp only [if_true] at hFk
            obtain ⟨h1, h2⟩ := hG k hFk
            refine ⟨h1, ?_⟩
            rcases h2 with h2 | h2 | h2
            · exact .inl (Nat.le_trans hi.kept.size h2)
            · exact .inr ⟨s, hs, (set_getD his).2 (.inl rfl), h2⟩
            · unfold tgtF at h2
              cases ht : s.tgt with
              | none => rw [ht] at h2; exact h2.elim
              | some t =>
                rw [ht] at h2
                obtain ⟨st', hst', e, hlt, hlv, _⟩ := tgtL t ht
                subst e
                rcases (hi.foot st' hst' hlt k h2).2 with h3 | ⟨s2, hs2, hl2, hw2⟩
                · exact .inl h3
                · exact .inr ⟨s2, hs2, (set_getD his).2 (.inr hl2), hw2⟩
          · simp only [e, if_false] at hFk
            have hl' := ((set_getD his).1 hl).resolve_left e
            obtain ⟨h1, h2⟩ := hi.foot s' hs' hl' k hFk
            refine ⟨Nat.lt_of_lt_of_le h1 hkw.size, ?_⟩
            rcases h2 with h2 | ⟨s2, hs2, hl2, hw2⟩
            · exact .inl h2
            · exact .inr ⟨s2, hs2, (set_getD his).2 (.inr hl2), hw2⟩
        · -- apart
          have liveOld : ∀ j, Live st (L.setIfInBounds s.i true) j → Live st L j ∧ s.tgt ≠ some j := fun j lv => by
            refine ⟨fun s3 hs3 ht => ?_, fun ht => ?_⟩
            · have := lv s3 hs3 ht
              cases h3 : L.getD s3.i false with
              | false => rfl
              | true => rw [(set_getD his).2 (.inr h3)] at this; cases this
            · have := lv s hs ht
              rw [(set_getD his).2 (.inl rfl)] at this; cases this
          have newOld : ∀ s3 ∈ st, L.getD s3.i false = true → Live st L s3.i → s.tgt ≠ some s3.i → ∀ k, G k → ¬ F s3.i k := fun s3 hs3 hl3 lv3 hnt k hGk hFk => by
            obtain ⟨h1, h2⟩ := safe s3 hs3 hl3 lv3 hnt k hFk
            obtain ⟨_, h3⟩ := hG k hGk
            rcases h3 with h3 | h3
            · omega
            · exact h2 h3
          by_cases e1 : s1.i = s.i
          · have e2 : s2.i ≠ s.i := fun e => hne (e1.trans e.symm)
            simp only [e1, if_true] at h1
            simp only [e2, if_false] at h2
            have hl2' := ((set_getD his).1 hl2).resolve_left e2
            obtain ⟨a1, a2⟩ := liveOld _ lv2
            exact newOld s2 hs2 hl2' a1 a2 k h1 h2
          · simp only [e1, if_false] at h1
            have hl1' := ((set_getD his).1 hl1).resolve_left e1
            obtain ⟨a1, a2⟩ := liveOld _ lv1
            by_cases e2 : s2.i = s.i
            · simp only [e2, if_true] at h2
              exact newOld s1 hs1 hl1' a1 a2 k h2 h1
            · simp only [e2, if_false] at h2
              have hl2' := ((set_getD his).1 hl2).resolve_left e2
              exact hi.apart s1 hs1 s2 hs2 hl1' hl2' hne a1 (liveOld _ lv2).1 k h1 h2
        · -- facts
          by_cases e : s'.i = s.i
          · simp only [e, if_true]; exact hR
          · simp only [e, if_false]
            have hl' := ((set_getD his).1 hl).resolve_left e
            have lv' : Live st L s'.i := fun s3 hs3 ht => by
              have := hlv s3 hs3 ht
              cases h3 : L.getD s3.i false with
              | false => rfl
              | true => rw [(set_getD his).2 (.inr h3)] at this; cases this
            have hnt : s.tgt ≠ some s'.i := fun ht => by
              have := hlv s hs ht
              rw [(set_getD his).2 (.inl rfl)] at this; cases this
            refine hst s' hs' _ _ w w' (hdep s' hs' c _ _ _ (fun j hj => ?_) (hi.fact s' hs' hl' lv')) hkw.size fun k hFk => hkw.block k (safe s' hs' hl' lv' hnt k hFk)
            refine (upd_ne c y ?_).symm
            rcases hj with rfl | hj
            · exact e
            · obtain ⟨os, hos, _⟩ := anc_spec hk.anc _ _ (hk.dep s' hs' j hj).1
              have hcs : ∀ e ∈ bEdges .any os, L.getD e false = true := fun e he => by
                obtain ⟨x, hx, hb, hon⟩ := bEdges_spec.1 he
                rw [← hon]; exact hi.closed.2 s'.i os (by simpa using hos) hl' x hx hb
              have := anc_listed hk.anc hi.closed s'.i os hos hcs j (hk.dep s' hs' j hj).1
              intro e; rw [e, hLf] at this; cases this
      unfold Oper.wp
      unfold HRun at hrun
      rw [ex c cc]
      generalize (execOp (af c).eval o').run P w = r at *
      cases r with
      | ok n w' =>
        cases n <;> simp only at hrun <;> simp only [Oper.upon]
        case value u => exact step u w' hrun
        case skip => exact step undef w' hrun
        case enter f args => exact hrun.mono fun e w'' ⟨v, he, hk'⟩ => by subst he; exact step v w'' hk'
      | halt x w' => simp only at hrun
    · -- a quiet operation
      have hq : ∀ s ∈ st, s.i ≠ i := fun s hs e => hhard ⟨s, hs, e⟩
      have good : Good (fun k => k < w0.heap.size ∧ Eb an st wr i k) w0 (Later w) :=
        ⟨fun w' h => kept_later (fun k hk' => hk'.1) keptE h, fun _ _ h h' => h.trans h', w, Later.refl w⟩
      have step : ∀ v w', Later w w' → (∀ x, (∀ s ∈ st, L.getD s.i false = true → x s.i = c s.i) → Holds (af x) o v) → wpAny P .any lops.toArray Q fuel (L.setIfInBounds i true) (a.put o.dst v) w' := by
        intro v w' hlw hv
        have up : ∀ s ∈ st, (L.setIfInBounds i true).getD s.i false = true → L.getD s.i false = true := fun s hs hl => ((set_getD his).1 hl).resolve_left (hq s hs)
        have lv : ∀ j, Live st (L.setIfInBounds i true) j → Live st L j := fun j h s hs ht => by
          have := h s hs ht
          cases h3 : L.getD s.i false with
          | false => rfl
          | true => rw [(set_getD his).2 (.inr h3)] at this; cases this
        refine ih _ _ _ c F hu' ⟨hcl, ?_, fun x hx => ?_, fun s' hs' hl k hFk => ?_, fun s1 hs1 s2 hs2 hl1 hl2 hne lv1 lv2 k h1 h2 => ?_, fun s' hs' hl hlv => ?_⟩
        · exact kept_later (fun k hk' => hk'.1) (hi.kept.weak fun k hk' => ⟨hk'.1, fun s hs hl => hk'.2 s hs ((set_getD his).2 (.inr hl))⟩) hlw
        · have hx' : ∀ s ∈ st, L.getD s.i false = true → x s.i = c s.i := fun s hs hl => hx s hs ((set_getD his).2 (.inr hl))
          exact mix_put (hok.size x) (hi.mix x hx') ho his (hv x hx')
        · obtain ⟨h1, h2⟩ := hi.foot s' hs' (up s' hs' hl) k hFk
          refine ⟨Nat.lt_of_lt_of_le h1 hlw.size, ?_⟩
          rcases h2 with h2 | ⟨s2, hs2, hl2, hw2⟩
          · exact .inl h2
          · exact .inr ⟨s2, hs2, (set_getD his).2 (.inr hl2), hw2⟩
        · exact hi.apart s1 hs1 s2 hs2 (up _ hs1 hl1) (up _ hs2 hl2) hne (lv _ lv1) (lv _ lv2) k h1 h2
        · exact hst s' hs' _ _ w w' (hi.fact s' hs' (up _ hs' hl) (lv _ hlv)) hlw.size fun k hFk => hlw.block k (hi.foot s' hs' (up _ hs' hl) k hFk).1
      obtain ⟨v, hv, hy⟩ := hok.quiet c i o ho hq (Later w) good
      rcases hy with ⟨hw, hqa⟩ | ⟨hw, hvu⟩
      · rw [wa c cc, hw]
        simp only [if_true]
        left
        have h1 := hqa w (Later.refl w)
        unfold Oper.quietAt at h1
        unfold Oper.wp
        have others : ∀ x, (∀ s ∈ st, L.getD s.i false = true → x s.i = c s.i) → ∃ vx, Holds (af x) o vx ∧ Oper.quietUpon P (Later w) w vx ((execOp (af c).eval o).run P w) := fun x hx => by
          obtain ⟨vx, hvx, hyx⟩ := hok.quiet x i o ho hq (Later w) good
          rcases hyx with ⟨_, hqx⟩ | ⟨hwx, _⟩
          · refine ⟨vx, hvx, ?_⟩
            have := hqx w (Later.refl w)
            unfold Oper.quietAt at this
            rwa [← ex x hx, ex c cc] at this
          · rw [← wa x hx, wa c cc, hw] at hwx; cases hwx
        have hcall := fun x => hok.call c x i o ho hq
        rw [ex c cc]
        generalize hr : (execOp (af c).eval o).run P w = r at *
        cases r with
        | ok n w' =>
          cases n <;> simp only [Oper.quietUpon] at h1 others <;> simp only [Oper.upon]
          case value u =>
            obtain ⟨e1, e2⟩ := h1
            refine step u w' (by rw [e1]; exact Later.refl w) fun x hx => ?_
            obtain ⟨vx, hvx, _, e3⟩ := others x hx
            rw [e3]; exact hvx
          case skip =>
            obtain ⟨e1, e2⟩ := h1
            refine step undef w' (by rw [e1]; exact Later.refl w) fun x hx => ?_
            obtain ⟨vx, hvx, _, e3⟩ := others x hx
            rw [← e3]; exact hvx
          case enter f args =>
            obtain ⟨e1, hc⟩ := h1
            subst e1
            refine hc.mono fun e w'' ⟨he, hw''⟩ => ?_
            subst he
            refine step v w'' hw'' fun x hx d hd hlt => ?_
            rcases hcall x with h | h
            · exact absurd hr (h _ _ _ _ _)
            · have hc := hv d hd (by rw [hok.size c, ← hok.size x]; exact hlt)
              simp only [slotOf, hd, Array.getD_eq_getD_getElem?, hc, Option.getD_some] at h
              rw [h]
              simp [hlt]
        | halt x w' => simp only [Oper.quietUpon] at h1
      · rw [wa c cc, hw]
        simp only [Bool.false_eq_true, if_false]
        refine step undef w (Later.refl w) fun x hx => ?_
        obtain ⟨vx, hvx, hyx⟩ := hok.quiet x i o ho hq (Later w) good
        rcases hyx with ⟨hwx, _⟩ | ⟨_, e⟩
        · rw [← wa x hx, wa c cc, hw] at hwx; cases hwx
        · rw [← e]; exact hvx
end
end Go.Proofs.Ytllpffkifleigaa
end
section
namespace Go.Proofs.Ytllpffkifleigaa
open Go Go.RowKit

def plainB (o : Oper) : Bool := match o.op with
  | .move _ | .assign _ | .build _ _ | .buildSlice _ _ _ | .load _ _ | .store _ _ _ | .binOp _ _ _ _ _ | .unOp _ _ _ | .convert _ _ _ | .slice _ _ _ _ _ | .fieldAddr _ _ _ | .field _ _ _ | .indexAddr _ _ _ | .index _ _ _ | .extract _ _ | .alloc _ | .box _ _ | .pick _ _ _ => true
  | .call { callee := .builtin .len, .. } | .call { callee := .builtin .cap, .. } | .call { callee := .builtin .min, .. } | .call { callee := .builtin .max, .. } => true
  | _ => false
theorem run_pick_ne {s : Sem Bool} {P : Program} {w w' : World} {f : FuncId} {args : Array Value} {u v : Value} : ((do pure (Next.value (if ← s then u else v))) : Sem Next).run P w ≠ .ok (.enter f args) w' := by
  rw [Sem.run_bind]
  cases s.run P w with
  | ok b w1 => simp [Result.andThen]
  | halt x w1 => simp [Result.andThen]
theorem plain_ne {o : Oper} (h : plainB o = true) {P : Program} (e : Operand → Value) (w : World) (f : FuncId) (args : Array Value) (w' : World) : (execOp e o).run P w ≠ .ok (.enter f args) w' := by
  obtain ⟨dst, op, ty, pos, aft, gd⟩ := o
  cases op
  case call c =>
    obtain ⟨callee, cargs, cty⟩ := c
    cases callee with
    | builtin b =>
      cases b <;> simp only [plainB, Bool.false_eq_true] at h
      all_goals
        simp only [execOp, resolve, Sem.run_bind, Sem.run_pure, Result.andThen_ok, invoke, builtin]
        generalize Sem.run P _ w = r
        cases r <;> simp [Result.andThen]
    | _ => simp [plainB] at h
  all_goals (simp only [plainB, Bool.false_eq_true] at h <;> first
    | (simp only [execOp]; exact run_value_ne)
    | (simp only [execOp]; exact run_skip_ne)
    | (simp only [execOp]; exact run_pick_ne)
    | (simp [execOp, Sem.run_pure]))

/-- The slots of the quiet calls. -/
def slotsB (m1 m2 : List Bool) (lops : List Oper) (ds : List Tmp) : Bool := (takeOps m1 lops ++ takeOps m2 lops).all fun o => plainB o || match o.dst with | some d => ds.contains d | none => true
def putH (shape : Nat → Par → Value) (x : Nat → Par) (lops : List Oper) : List St → Act → Act
  | [], a => a
  | s :: t, a => putH shape x lops t (a.put ((lops[s.i]?).bind (·.dst)) (shape s.i (x s.i)))

section
variable {P : Program} {lops : List Oper} {an : List (List Nat)} {m1 m2 : List Bool} {st : List St} {w0 : World} {a0 : Act} {shape : Nat → Par → Value} {wr : Nat → Nat → Prop} {R : Nat → (Nat → Par) → (Nat → Prop) → World → Prop}

theorem putH_size (x : Nat → Par) : ∀ (l : List St) (a : Act), (putH shape x lops l a).tmps.size = a.tmps.size
  | [], _ => rfl
  | s :: t, a => (putH_size x t _).trans (put_size _ _ _)
theorem putH_defers (x : Nat → Par) : ∀ (l : List St) (a : Act), (putH shape x lops l a).defers = a.defers
  | [], _ => rfl
  | s :: t, a => (putH_defers x t _).trans (put_defers _ _ _)
theorem putH_out (x : Nat → Par) {d : Tmp} : ∀ (l : List St) (a : Act), (∀ s ∈ l, (lops[s.i]?).bind (·.dst) ≠ some d) → (putH shape x lops l a).tmps[d]? = a.tmps[d]?
  | [], _, _ => rfl
  | s :: t, a, h => (putH_out x t _ (fun s' hs' => h s' (List.mem_cons_of_mem _ hs'))).trans (put_far (h s List.mem_cons_self))
theorem putH_in (hd : dstB lops = true) (x : Nat → Par) {d : Tmp} : ∀ (l : List St) (a : Act), ∀ s ∈ l, (lops[s.i]?).bind (·.dst) = some d → d < a.tmps.size → (putH shape x lops l a).tmps[d]? = some (shape s.i (x s.i))
  | [], _, s, hs, _, _ => by cases hs
  | s' :: t, a, s, hs, he, hlt => by
    by_cases h : ∃ s2 ∈ t, (lops[s2.i]?).bind (·.dst) = some d
    · obtain ⟨s2, hs2, he2⟩ := h
      have e : s.i = s2.i := by
        obtain ⟨o, ho, hdo⟩ := Option.bind_eq_some_iff.1 he
        obtain ⟨o2, ho2, hdo2⟩ := Option.bind_eq_some_iff.1 he2
        exact dst_one lops hd _ _ _ _ d ho ho2 hdo hdo2
      rw [e]
      exact putH_in hd x t _ s2 hs2 he2 (by rw [put_size]; exact hlt)
    · have hs' : s = s' := (List.mem_cons.1 hs).resolve_right fun h' => h ⟨s, h', he⟩
      subst hs'
      show (putH shape x lops t (a.put ((lops[s.i]?).bind (·.dst)) (shape s.i (x s.i)))).tmps[d]? = _
      rw [putH_out x t _ fun s2 hs2 h2 => h ⟨s2, hs2, h2⟩, he, put_at, if_pos rfl, if_pos hlt]

theorem mem_take {o : Oper} : ∀ (m : List Bool) (l : List Oper), o ∈ takeOps m l → ∃ j, m.getD j false = true ∧ l[j]? = some o
  | [], l, h => by cases l <;> simp [takeOps] at h
  | true :: m, [], h => by simp [takeOps] at h
  | false :: m, [], h => by simp [takeOps] at h
  | true :: m, o' :: l, h => by
    simp only [takeOps] at h
    rcases List.mem_cons.1 h with rfl | h
    · exact ⟨0, rfl, rfl⟩
    · obtain ⟨j, h1, h2⟩ := mem_take m l h
      exact ⟨j + 1, by simpa using h1, by simpa using h2⟩
  | false :: m, o' :: l, h => by
    simp only [takeOps] at h
    obtain ⟨j, h1, h2⟩ := mem_take m l h
    exact ⟨j + 1, by simpa using h1, by simpa using h2⟩

/-- One walk: what it has left alone, and what each of its operations yields at its end. -/
theorem walk_spec {ops : Array Oper} {C : World → Prop} {af : Act} : ∀ (m : List Bool) (l : List Oper) (a : Act), (∀ o ∈ l, ∀ cs b, o.op ≠ .select cs b) → dstB l = true → (∀ (i : Nat) (oi : Oper) (j : Nat) (oj : Oper) (d : Tmp), l[i]? = some oi → l[j]? = some oj → oj.dst = some d → d ∈ oi.looksAt ops → j < i) →
    wpQuiet P ops C (fun a' => a' = af) (takeOps m l) a →
    (af.tmps.size = a.tmps.size ∧ af.defers = a.defers ∧ (∀ d, (∀ o ∈ takeOps m l, o.dst ≠ some d) → af.tmps[d]? = a.tmps[d]?)) ∧
      ∀ j oj, m.getD j false = true → l[j]? = some oj → ∃ v, Holds af oj v ∧ YieldsIn P ops C oj v af
  | [], l, a, _, _, _, h => by
    have e : takeOps [] l = [] := by cases l <;> rfl
    rw [e] at h ⊢
    have : a = af := h
    subst this
    exact ⟨⟨rfl, rfl, fun _ _ => rfl⟩, fun j oj hj => by simp at hj⟩
  | true :: m, [], a, _, _, _, h => by
    have : a = af := h
    subst this
    exact ⟨⟨rfl, rfl, fun _ _ => rfl⟩, fun j oj _ hj => by simp at hj⟩
  | false :: m, [], a, _, _, _, h => by
    have : a = af := h
    subst this
    exact ⟨⟨rfl, rfl, fun _ _ => rfl⟩, fun j oj _ hj => by simp at hj⟩
  | false :: m, o :: l, a, hs, hd, hr, h => by
    simp only [dstB, Bool.and_eq_true] at hd
    obtain ⟨h1, h2⟩ := walk_spec m l a (fun o ho => hs o (List.mem_cons_of_mem _ ho)) hd.2 (fun i oi j oj d hi hj => fun h3 h4 => by have := hr (i + 1) oi (j + 1) oj d (by simpa using hi) (by simpa using hj) h3 h4; omega) h
    refine ⟨h1, fun j oj hm hj => ?_⟩
    cases j with
    | zero => simp at hm
    | succ j => exact h2 j oj (by simpa using hm) (by simpa using hj)
  | true :: m, o :: l, a, hs, hd, hr, h => by
    have hd' := hd
    simp only [dstB, Bool.and_eq_true] at hd
    have hex : ∃ v, YieldsIn P ops C o v a ∧ wpQuiet P ops C (fun a' => a' = af) (takeOps m l) (a.put o.dst v) := by
      simp only [takeOps] at h
      unfold wpQuiet at h
      split at h
      · rename_i hw
        obtain ⟨v, h1, h2⟩ := h
        exact ⟨v, .inl ⟨hw, h1⟩, h2⟩
      · rename_i hw
        exact ⟨undef, .inr ⟨by simpa using hw, rfl⟩, h⟩
    obtain ⟨v, hy, hn⟩ := hex
    obtain ⟨⟨s1, s2, s3⟩, h2⟩ := walk_spec m l _ (fun o ho => hs o (List.mem_cons_of_mem _ ho)) hd.2 (fun i oi j oj d hi hj => fun h3 h4 => by have := hr (i + 1) oi (j + 1) oj d (by simpa using hi) (by simpa using hj) h3 h4; omega) hn
    have far : ∀ d, o.dst = some d → ∀ o' ∈ takeOps m l, o'.dst ≠ some d := fun d hod o' ho' he => by
      obtain ⟨j, _, hj⟩ := mem_take m l ho'
      have := dst_one (o :: l) hd' 0 (j + 1) o o' d rfl (by simpa using hj) hod he
      omega
    refine ⟨⟨s1.trans (put_size _ _ _), s2.trans (put_defers _ _ _), fun d hdd => ?_⟩, fun j oj hm hj => ?_⟩
    · simp only [takeOps] at hdd
      rw [s3 d fun o' ho' => hdd o' (List.mem_cons_of_mem _ ho'), put_far (hdd o List.mem_cons_self)]
    · cases j with
      | succ j => exact h2 j oj (by simpa using hm) (by simpa using hj)
      | zero =>
        have e : oj = o := by simpa using hj.symm
        subst e
        refine ⟨v, fun d hod hlt => ?_, ?_⟩
        · rw [s3 d (far d hod), hod, put_at, if_pos rfl, if_pos (by rw [put_size] at s1; rw [← s1]; exact hlt)]
        · have agree : ∀ t ∈ oj.looksAt ops, af.tmps[t]? = a.tmps[t]? := fun t ht => by
            have h0 : oj.dst ≠ some t := fun he => by have := hr 0 oj 0 oj t rfl rfl he ht; omega
            rw [s3 t fun o' ho' he => by
              obtain ⟨j, _, hj⟩ := mem_take m l ho'
              have := hr 0 oj (j + 1) o' t rfl (by simpa using hj) he ht
              omega, put_far h0]
          exact hy.of_same (exec_agree (ops := ops) (hs oj List.mem_cons_self) agree) (wanted_agree agree)

theorem read_lt (hk : Chk lops an m1 m2 st) : ∀ (i : Nat) (oi : Oper) (j : Nat) (oj : Oper) (d : Tmp), lops[i]? = some oi → lops[j]? = some oj → oj.dst = some d → d ∈ oi.looksAt lops.toArray → j < i :=
  fun i oi j oj d hi hj hd hm => hk.back i oi hi j (hk.reads i oi j oj d hi hj hd hm).1

theorem of_walks {b af : (Nat → Par) → Act} (hk : Chk lops an m1 m2 st) {S1 S2 : Nat → Prop}
    (hS1 : ∀ k, S1 k → k < w0.heap.size ∧ ∀ i, m1.getD i false = true → Eb an st wr i k) (hS2 : ∀ k, S2 k → k < w0.heap.size ∧ ∀ i, m2.getD i false = true → Eb an st wr i k)
    (hq1 : ∀ x D, Good S1 w0 D → wpQuiet P lops.toArray (fun w' => ∃ y : Of D, w' = y.val) (fun a' => a' = b x) (takeOps m1 lops) (putH shape x lops st a0))
    (hq2 : ∀ x D, Good S2 w0 D → wpQuiet P lops.toArray (fun w' => ∃ y : Of D, w' = y.val) (fun a' => a' = af x) (takeOps m2 lops) (b x))
    {ds : List Tmp} (hds : slotsB m1 m2 lops ds = true) (hcall : ∀ d ∈ ds, ∀ x x', (af x).tmps.getD d undef = (af x').tmps.getD d undef) : AfOk P lops an st wr w0 a0 af shape := by
  have hns : ∀ o ∈ lops, ∀ cs b, o.op ≠ .select cs b := fun o ho cs b => by
    obtain ⟨j, hj⟩ := List.mem_iff_getElem?.1 ho
    exact hk.nosel j o cs b hj
  have W1 := fun x D (hD : Good S1 w0 D) => walk_spec m1 lops _ hns hk.dst (read_lt hk) (hq1 x D hD)
  have W2 := fun x D (hD : Good S2 w0 D) => walk_spec m2 lops _ hns hk.dst (read_lt hk) (hq2 x D hD)
  have d1 : Good S1 w0 (Kept (fun k => k < w0.heap.size) w0) := ⟨fun w h => h.weak fun k hk' => (hS1 k hk').1, fun _ _ h h' => kept_later (fun k hk' => hk') h h', w0, Kept.refl _ _⟩
  have d2 : Good S2 w0 (Kept (fun k => k < w0.heap.size) w0) := ⟨fun w h => h.weak fun k hk' => (hS2 k hk').1, fun _ _ h h' => kept_later (fun k hk' => hk') h h', w0, Kept.refl _ _⟩
  have A1 := fun x => (W1 x _ d1).1
  have A2 := fun x => (W2 x _ d2).1
  have not1 : ∀ s ∈ st, ∀ (o : Oper) (d : Tmp), lops[s.i]? = some o → o.dst = some d → ∀ o' ∈ takeOps m1 lops, o'.dst ≠ some d := fun s hs o d ho hd o' ho' he => by
    obtain ⟨j, hm, hj⟩ := mem_take m1 lops ho'
    have := dst_one lops hk.dst _ _ _ _ d ho hj hd he
    exact (hk.kind1 j (List.getElem?_eq_some_iff.1 hj).1 hm).2 s hs this
  have not2 : ∀ s ∈ st, ∀ (o : Oper) (d : Tmp), lops[s.i]? = some o → o.dst = some d → ∀ o' ∈ takeOps m2 lops, o'.dst ≠ some d := fun s hs o d ho hd o' ho' he => by
    obtain ⟨j, hm, hj⟩ := mem_take m2 lops ho'
    have := dst_one lops hk.dst _ _ _ _ d ho hj hd he
    exact (hk.kind2 j (List.getElem?_eq_some_iff.1 hj).1 hm).2 s hs this
  have take_mem : ∀ (m : List Bool) (o : Oper), o ∈ takeOps m lops → o ∈ lops := fun m o h => by
    obtain ⟨j, _, hj⟩ := mem_take m lops h
    exact List.mem_of_getElem? hj
  refine ⟨fun x => (A2 x).1.trans ((A1 x).1.trans (putH_size x _ _)), fun x => (A2 x).2.1.trans ((A1 x).2.1.trans (putH_defers x _ _)), fun x d hd => ?_, fun x s hs o ho d hd hlt => ?_, fun x i o ho hq D hD => ?_, fun x x' i o ho hq => ?_⟩
  · rw [(A2 x).2.2 d fun o ho => hd o (take_mem _ _ ho), (A1 x).2.2 d fun o ho => hd o (take_mem _ _ ho), putH_out x st a0 fun s _ he => ?_]
    obtain ⟨o, ho, hdo⟩ := Option.bind_eq_some_iff.1 he
    exact hd o (List.mem_of_getElem? ho) hdo
  · have h1 : d < a0.tmps.size := by rw [(A2 x).1, (A1 x).1, putH_size] at hlt; exact hlt
    rw [(A2 x).2.2 d (not2 s hs o d ho hd), (A1 x).2.2 d (not1 s hs o d ho hd)]
    exact putH_in hk.dst x st a0 s hs (by rw [ho]; exact hd) h1
  · have hin : i < lops.length := (List.getElem?_eq_some_iff.1 ho).1
    rcases hk.kind3 i hin hq with hm | hm
    · have hD1 : Good S1 w0 D := ⟨fun w hw => (hD.low w hw).weak fun k hk' => ⟨(hS1 k hk').1, (hS1 k hk').2 i hm⟩, hD.up, hD.ne⟩
      obtain ⟨v, hv, hy⟩ := (W1 x D hD1).2 i o hm ho
      have no2 : ∀ t ∈ o.looksAt lops.toArray, ∀ o' ∈ takeOps m2 lops, o'.dst ≠ some t := fun t ht o' ho' he => by
        obtain ⟨j, hm2, hj⟩ := mem_take m2 lops ho'
        exact (hk.reads i o j o' t ho hj he ht).2 ⟨hm, hm2⟩
      have agree : ∀ t ∈ o.looksAt lops.toArray, (af x).tmps[t]? = (b x).tmps[t]? := fun t ht => (A2 x).2.2 t (no2 t ht)
      refine ⟨v, fun d hd hlt => ?_, ?_⟩
      · rw [(A2 x).2.2 d fun o' ho' he => ?_]
        · exact hv d hd (by rw [← (A2 x).1]; exact hlt)
        · obtain ⟨j, hm2, hj⟩ := mem_take m2 lops ho'
          have := dst_one lops hk.dst _ _ _ _ d ho hj hd he
          subst this
          rw [(hk.kind1 i hin hm).1] at hm2
          cases hm2
      · have e : (fun w' => ∃ y : Of D, w' = y.val) = D := cls_eq D
        rw [e] at hy
        exact hy.of_same (exec_agree (ops := lops.toArray) (hk.nosel i o · · ho) agree) (wanted_agree agree)
    · have hD2 : Good S2 w0 D := ⟨fun w hw => (hD.low w hw).weak fun k hk' => ⟨(hS2 k hk').1, (hS2 k hk').2 i hm⟩, hD.up, hD.ne⟩
      obtain ⟨v, hv, hy⟩ := (W2 x D hD2).2 i o hm ho
      have e : (fun w' => ∃ y : Of D, w' = y.val) = D := cls_eq D
      rw [e] at hy
      exact ⟨v, hv, hy⟩
  · by_cases hp : plainB o = true
    · exact .inl fun a w f args w' => plain_ne hp a.eval w f args w'
    · right
      have hin : i < lops.length := (List.getElem?_eq_some_iff.1 ho).1
      have hmem : o ∈ takeOps m1 lops ++ takeOps m2 lops := by
        have take_in : ∀ (m : List Bool) (l : List Oper) (j : Nat), m.getD j false = true → l[j]? = some o → o ∈ takeOps m l := fun m => by
          induction m with
          | nil => intro l j h; simp at h
          | cons b m ihm =>
            intro l j h hl
            cases l with
            | nil => simp at hl
            | cons o' l =>
              cases j with
              | zero =>
                have e1 : b = true := by simpa using h
                have e2 : o' = o := by simpa using hl
                subst e1; subst e2
                exact List.mem_cons_self
              | succ j =>
                have := ihm l j (by simpa using h) (by simpa using hl)
                cases b
                · exact this
                · exact List.mem_cons_of_mem _ this
        rcases hk.kind3 i hin hq with hm | hm
        · exact List.mem_append_left _ (take_in m1 lops i hm ho)
        · exact List.mem_append_right _ (take_in m2 lops i hm ho)
      have h1 := List.all_eq_true.1 hds o hmem
      simp only [Bool.or_eq_true, hp, Bool.false_eq_true, false_or] at h1
      unfold slotOf
      cases hod : o.dst with
      | none => rfl
      | some d =>
        rw [hod] at h1
        exact hcall d (by simpa using h1) x x'

def obls (P : Program) (lops : List Oper) (an : List (List Nat)) (all : List St) (wr : Nat → Nat → Prop) (w0 : World) (af : (Nat → Par) → Act) (shape : Nat → Par → Value) (R : Nat → (Nat → Par) → (Nat → Prop) → World → Prop) : List St → Prop
  | [] => True
  | s :: t => Obl P lops an all wr w0 af shape R s ∧ obls P lops an all wr w0 af shape R t
/-- What a fact owes: it stands as long as its memory does; it depends on few choices. -/
def Owes (R : Nat → (Nat → Par) → (Nat → Prop) → World → Prop) (s : St) : Prop :=
  (∀ x F w w', R s.i x F w → w.heap.size ≤ w'.heap.size → (∀ k, F k → w'.heap[k]? = w.heap[k]?) → R s.i x F w') ∧ (∀ x x' F w, (∀ j, j = s.i ∨ j ∈ s.dep → x j = x' j) → R s.i x F w → R s.i x' F w)
def owes (R : Nat → (Nat → Par) → (Nat → Prop) → World → Prop) : List St → Prop
  | [] => True
  | s :: t => Owes R s ∧ owes R t
def lives (all : List St) (R : Nat → (Nat → Par) → (Nat → Prop) → World → Prop) (x : Nat → Par) (F : Nat → Nat → Prop) (w : World) : List St → Prop
  | [] => True
  | s :: t => (all.all (fun s' => match s'.tgt with | some j => j != s.i | none => true) = true → R s.i x (F s.i) w) ∧ lives all R x F w t

theorem wp_region_XA {id : Nat} {Q : Exit → Act → World → Prop} {b af : (Nat → Par) → Act} (an : List (List Nat)) (m1 m2 : List Bool) (st : List St) (shape : Nat → Par → Value) (wr : Nat → Nat → Prop) (R : Nat → (Nat → Par) → (Nat → Prop) → World → Prop) (S1 S2 : Nat → Prop)
    (hm : P.follows .mixedOrders = true) (hb : regB .any lops an m1 m2 st = true)
    (hS1 : ∀ k, S1 k → k < w0.heap.size ∧ ∀ i, m1.getD i false = true → Eb an st wr i k) (hS2 : ∀ k, S2 k → k < w0.heap.size ∧ ∀ i, m2.getD i false = true → Eb an st wr i k)
    (hwl : ∀ s ∈ st, ∀ k, wr s.i k → k < w0.heap.size) (hwr : ∀ s ∈ st, ∀ s' ∈ st, s.i ≠ s'.i → ∀ k, wr s.i k → ¬ wr s'.i k)
    (hq1 : ∀ x D, Good S1 w0 D → wpQuiet P lops.toArray (fun w' => ∃ y : Of D, w' = y.val) (fun a' => a' = b x) (takeOps m1 lops) (putH shape x lops st a0))
    (hq2 : ∀ x D, Good S2 w0 D → wpQuiet P lops.toArray (fun w' => ∃ y : Of D, w' = y.val) (fun a' => a' = af x) (takeOps m2 lops) (b x))
    {ds : List Tmp} (hds : slotsB m1 m2 lops ds = true) (hcall : ∀ d ∈ ds, ∀ x x', (af x).tmps.getD d undef = (af x').tmps.getD d undef)
    (hob : obls P lops an st wr w0 af shape R st) (how : owes R st)
    (hfin : ∀ x w F, Kept (fun k => k < w0.heap.size ∧ ∀ s ∈ st, ¬ wr s.i k) w0 w → lives st R x F w st → Aparts st F → Q .normal (af x) w) :
    (Code.region id lops.toArray true).wp P Q a0 w0 := by
  have hk := chk_of hb
  have hok := of_walks hk hS1 hS2 hq1 hq2 hds hcall
  have ob : ∀ (l : List St), obls P lops an st wr w0 af shape R l → ∀ s ∈ l, Obl P lops an st wr w0 af shape R s := fun l => by
    induction l with
    | nil => intro _ s hs; cases hs
    | cons a l ih =>
      intro h s hs
      rcases List.mem_cons.1 hs with rfl | hs
      · exact h.1
      · exact ih h.2 s hs
  have ow : ∀ (l : List St), owes R l → ∀ s ∈ l, Owes R s := fun l => by
    induction l with
    | nil => intro _ s hs; cases hs
    | cons a l ih =>
      intro h s hs
      rcases List.mem_cons.1 hs with rfl | hs
      · exact h.1
      · exact ih h.2 s hs
  have lv : ∀ x w F (l : List St), (∀ s ∈ l, (∀ s' ∈ st, s'.tgt ≠ some s.i) → R s.i x (F s.i) w) → lives st R x F w l := fun x w F l => by
    induction l with
    | nil => intro _; trivial
    | cons a l ih =>
      intro h
      refine ⟨fun hl => h a List.mem_cons_self fun s' hs' ht => ?_, ih fun s hs => h s (List.mem_cons_of_mem _ hs)⟩
      have := List.all_eq_true.1 hl s' hs'
      rw [ht] at this
      simp at this
  refine wp_region_any hm (anyX hk hok (ob st hob) (fun s hs => (ow st how s hs).1) (fun s hs => (ow st how s hs).2) hwl hwr (fun x w F hkept hR hap => hfin x w F hkept (lv x w F st hR) hap) _ _ _ _ (fun _ _ => (none, 0)) (fun _ _ => False) ?_ ?_)
  · have := List.length_filter_le (fun i => !(Array.replicate lops.toArray.size false).getD i true) (List.range lops.length)
    simpa [unl] using this
  · have none : ∀ i, (Array.replicate lops.toArray.size false).getD i false = false := fun i => by
      simp [Array.getD]
    refine ⟨⟨by simp, fun j oj _ h => absurd ((none j).symm.trans h) (by simp)⟩, ⟨rfl, rfl, rfl, Nat.le_refl _, fun _ _ => rfl⟩, fun x _ => ⟨rfl, rfl, fun d => ⟨fun ⟨i, o, _, h, _⟩ => absurd ((none i).symm.trans h) (by simp), fun _ => rfl⟩⟩, fun s _ h => absurd ((none s.i).symm.trans h) (by simp), fun s _ _ _ h => absurd ((none s.i).symm.trans h) (by simp), fun s _ h => absurd ((none s.i).symm.trans h) (by simp)⟩
theorem wp_region_X {id : Nat} {Q : Exit → Act → World → Prop} {b af : (Nat → Par) → Act} (an : List (List Nat)) (m1 m2 : List Bool) (st : List St) (shape : Nat → Par → Value) (wr : Nat → Nat → Prop) (R : Nat → (Nat → Par) → (Nat → Prop) → World → Prop) (S1 S2 : Nat → Prop)
    (hm : P.follows .mixedOrders = true) (hb : regB .any lops an m1 m2 st = true)
    (hS1 : ∀ k, S1 k → k < w0.heap.size ∧ ∀ i, m1.getD i false = true → Eb an st wr i k) (hS2 : ∀ k, S2 k → k < w0.heap.size ∧ ∀ i, m2.getD i false = true → Eb an st wr i k)
    (hwl : ∀ s ∈ st, ∀ k, wr s.i k → k < w0.heap.size) (hwr : ∀ s ∈ st, ∀ s' ∈ st, s.i ≠ s'.i → ∀ k, wr s.i k → ¬ wr s'.i k)
    (hq1 : ∀ x D, Good S1 w0 D → wpQuiet P lops.toArray (fun w' => ∃ y : Of D, w' = y.val) (fun a' => a' = b x) (takeOps m1 lops) (putH shape x lops st a0))
    (hq2 : ∀ x D, Good S2 w0 D → wpQuiet P lops.toArray (fun w' => ∃ y : Of D, w' = y.val) (fun a' => a' = af x) (takeOps m2 lops) (b x))
    {ds : List Tmp} (hds : slotsB m1 m2 lops ds = true) (hcall : ∀ d ∈ ds, ∀ x x', (af x).tmps.getD d undef = (af x').tmps.getD d undef)
    (hob : obls P lops an st wr w0 af shape R st) (how : owes R st)
    (hfin : ∀ x w F, Kept (fun k => k < w0.heap.size ∧ ∀ s ∈ st, ¬ wr s.i k) w0 w → lives st R x F w st → Q .normal (af x) w) :
    (Code.region id lops.toArray true).wp P Q a0 w0 :=
  wp_region_XA an m1 m2 st shape wr R S1 S2 hm hb hS1 hS2 hwl hwr hq1 hq2 hds hcall hob how fun x w F hk hl _ => hfin x w F hk hl
end
end Go.Proofs.Ytllpffkifleigaa
end
section
namespace Go.Proofs.Ytllpffkifleigaa
open Go.RowKit
section
variable {P : Program} {md : Region.Mode} {ops : Array Oper} {S : Nat → Prop} {E : Nat → Bool}
theorem grown_setCell (w : World) (g off : Nat) (v : Value) : w.grownBy (w.setCell ⟨g, off, none⟩ v) (some g) :=
  ⟨rfl, rfl, rfl, by simp, fun k _ hne => Below.heap_setCell w ⟨g, off, none⟩ v k (fun e => hne (by rw [e]))⟩
theorem kept_setCell {w : World} {g off : Nat} {v : Value} (hg : ¬ S g) : Kept S w (w.setCell ⟨g, off, none⟩ v) :=
  ⟨rfl, rfl, rfl, by simp, fun k hk => Below.heap_setCell w ⟨g, off, none⟩ v k (fun e => hg (by have e' : k = g := e; rw [← e']; exact hk))⟩
theorem exec_store_cell {o : Oper} {t t' : TypeId} {p x : Operand} {g off : Nat} {old : Array Value} {z : Int} (h : o.op = .store t p x) {e : Operand → Value} {w : World} (hp : e p = .pointer (some ⟨g, off, none⟩)) (hx : e x = .int .i64 z)
    (hg : Blk w g t' old) (hi : (P.info? t).map (·.size) = some 1) (ho : off < old.size) :
    (execOp e o).run P w = .ok .skip (w.setCell ⟨g, off, none⟩ (.int .i64 z)) := by
  have hc : w.cell? ⟨g, off, none⟩ = some (old[off]'ho) := by rw [hg.cell off]; simp [ho]
  have hf := hg.frozen off
  cases hq : P.info? t with
  | none => simp [hq] at hi
  | some i =>
    have hs : i.size = 1 := by simpa [hq] using hi
    simp [execOp, h, hp, hx, go_sem, sizeOf, typeInfo, hq, hs, hc, hf]
theorem anyR_set1 {Q : Act → World → Prop} {f n : Nat} {listed : Array Bool} {a : Act} {w : World} (i : Nat) (t t' : TypeId) (p x : Tmp) (g off : Nat) (old new : Array Value) (z : Int) (r1 : Region.ready md ops listed = [i]) (hs : isStore ops[i]? t p x = true) (hn : n = f + 1)
    (hp : a.tmps.getD p undef = .pointer (some ⟨g, off, none⟩)) (hx : a.tmps.getD x undef = .int .i64 z) (hg : Blk w g t' old) (hi : (P.info? t).map (·.size) = some 1) (ho : off < old.size)
    (hnew : old.setIfInBounds off (.int .i64 z) = new) (hE : E i = true → ¬ S g)
    (h : ∀ w', w.grownBy w' (some g) → Blk w' g t' new → anyR P md ops S E Q f (listed.setIfInBounds i true) a w') : anyR P md ops S E Q n listed a w := by
  subst hn
  subst hnew
  refine anyR_one i _ r1 (beq_self_eq_true _) fun w1 h1' => ?_
  unfold isStore at hs
  split at hs
  · rename_i t1 p1 x1 ty pos aft heq
    simp only [Bool.and_eq_true, beq_iff_eq] at hs
    obtain ⟨⟨rfl, rfl⟩, rfl⟩ := hs
    refine opR_of heq rfl ?_
    rw [exec_store_cell (P := P) (o := ⟨none, .store t1 (.tmp p1) (.tmp x1), ty, pos, aft, none⟩) rfl (e := a.eval) (w := w1) hp hx (blk_later hg h1') hi ho]
    refine ⟨fun he => kept_setCell (hE he), ?_⟩
    exact h _ (grown_later h1' (grown_setCell w1 g off _)) ((blk_later hg h1').set_ off _)
  · cases hs
end
end Go.Proofs.Ytllpffkifleigaa
end
