/-
  What is left of a region behind its quiet operations: one or two new variables that are laid and filled, in whatever order.
  What is left of a region behind its quiet operations: one element is appended to a row of the call's own.
  Single steps of a region: an operation that lays one new block, a call.
-/
import Derived.Test.YtiggefmckomilaaWords
import Derived.WalkKit
set_option linter.unusedSimpArgs false
set_option linter.unusedVariables false
namespace Go.Proofs.Ytiggefmckomilaa
open Go Go.RowKit

section
variable {P : Program} {md : Region.Mode} {ops : Array Oper} {S : Nat → Prop} {E : Nat → Bool}

theorem exec_alloc {o : Oper} {t : TypeId} {z : Value} (h : o.op = .alloc t) (hz : (P.info? t).map (·.zero) = some (some z)) (e : Operand → Value) (w : World) :
    (execOp e o).run P w = .ok (.value (.pointer (some ⟨w.heap.size, 0, none⟩))) (w.alloc (.cells z.cells t)) := by
  cases hi : P.info? t with
  | none => simp [hi] at hz
  | some i =>
    have hz' : i.zero = some z := by simpa [hi] using hz
    simp [execOp, h, hi, hz', go_sem, typeInfo, zeroValue]

theorem exec_store {o : Oper} {t t' : TypeId} {p x : Operand} {g : Nat} {old cells : Array Value} (h : o.op = .store t p x) {e : Operand → Value} {w : World} (hp : e p = .pointer (some ⟨g, 0, none⟩)) (hx : e x = .agg cells)
    (hg : Blk w g t' old) (hi : (P.info? t).map (·.size) = some cells.size) (ho : old.size = cells.size) (h1 : cells.all (·.oneCell') = true) :
    (execOp e o).run P w = .ok .skip (w.setRow g cells) := by
  have := run_storeCells_from (P := P) g t' cells.toList 0 old w hg (by simp; omega) (fun v hv => (Array.all_eq_true_iff_forall_mem.1 h1) v (by simpa using hv))
  simp at this
  cases hq : P.info? t with
  | none => simp [hq] at hi
  | some i =>
    have hs : i.size = cells.size := by simpa [hq] using hi
    simp [execOp, h, hp, hx, go_sem, sizeOf, typeInfo, hq, hs, this]

theorem blk_setRow {w : World} {g : Nat} {t : TypeId} {old cs : Array Value} (h : Blk w g t old) : Blk (w.setRow g cs) g t cs := by
  unfold Blk at *
  simp [World.setRow, Array.getElem?_modify, h]
theorem blk_setRow_other {w : World} {g k : Nat} {t : TypeId} {old cs : Array Value} (h : Blk w k t old) (hne : k ≠ g) : Blk (w.setRow g cs) k t old := by
  unfold Blk at *
  simp [World.setRow, Array.getElem?_modify, Ne.symm hne, h]
theorem below_setRow {B : Nat} {w : World} {g : Nat} {cs : Array Value} (hB : B ≤ g) : Below B w (w.setRow g cs) :=
  ⟨rfl, rfl, rfl, by simp [World.setRow], fun k hk => by simp [World.setRow, Array.getElem?_modify]; intro e; omega⟩
theorem kept_setRow {w : World} {g : Nat} {cs : Array Value} (hg : ¬ S g) : Kept S w (w.setRow g cs) :=
  ⟨rfl, rfl, rfl, by simp [World.setRow], fun k hk => by simp [World.setRow, Array.getElem?_modify]; intro e; subst e; exact absurd hk hg⟩
theorem kept_alloc {w : World} (o : Obj) (hS : ∀ k, S k → k < w.heap.size) : Kept S w (w.alloc o) := Kept.of_below hS ((Below.refl _ _).alloc (Nat.le_refl _) _)
theorem blk_later {w w' : World} {g : Nat} {t : TypeId} {cs : Array Value} (h : Blk w g t cs) (hl : Later w w') : Blk w' g t cs := h.below hl h.lt
theorem size_setRow' (w : World) (g : Nat) (cs : Array Value) : (w.setRow g cs).heap.size = w.heap.size := by simp [World.setRow]

def isAlloc (o : Option Oper) (t : TypeId) (p : Tmp) : Bool := match o with
  | some ⟨some d, .alloc t', _, _, _, none⟩ => d == p && t' == t
  | _ => false
def isStore (o : Option Oper) (t : TypeId) (p x : Tmp) : Bool := match o with
  | some ⟨none, .store t' (.tmp p') (.tmp x'), _, _, _, none⟩ => p' == p && t' == t && x' == x
  | _ => false

theorem opR_alloc {i : Nat} {t : TypeId} {p : Tmp} {z : Value} (h : isAlloc ops[i]? t p = true) (hz : (P.info? t).map (·.zero) = some (some z)) {K : Act → World → Prop} {a : Act} {w : World} (hS : ∀ k, S k → k < w.heap.size)
    (hK : K (a.put (some p) (.pointer (some ⟨w.heap.size, 0, none⟩))) (w.alloc (.cells z.cells t))) : opR P ops S E i K a w := by
  unfold opR
  cases ho : ops[i]? with
  | none => rw [ho] at h; simp [isAlloc] at h
  | some o =>
    rw [ho] at h
    obtain ⟨dst, op, ty, pos, aft, gd⟩ := o
    cases dst with
    | none => simp [isAlloc] at h
    | some d => cases gd with
      | some x => cases op <;> simp [isAlloc] at h
      | none => cases op with
        | alloc t' =>
          simp [isAlloc] at h
          obtain ⟨rfl, rfl⟩ := h
          have e := exec_alloc (P := P) (o := ⟨some d, .alloc t', ty, pos, aft, none⟩) rfl hz a.eval w
          simp only [Region.wanted, if_true, e, uponR]
          exact ⟨fun _ => kept_alloc _ hS, hK⟩
        | _ => simp [isAlloc] at h

theorem opR_store {i : Nat} {t t' : TypeId} {p x : Tmp} {g : Nat} {old cells : Array Value} (h : isStore ops[i]? t p x = true) {K : Act → World → Prop} {a : Act} {w : World} (hp : a.tmps.getD p undef = .pointer (some ⟨g, 0, none⟩)) (hx : a.tmps.getD x undef = .agg cells)
    (hg : Blk w g t' old) (hi : (P.info? t).map (·.size) = some cells.size) (ho : old.size = cells.size) (h1 : cells.all (·.oneCell') = true) (hg' : E i = true → ¬ S g) (hK : K a (w.setRow g cells)) : opR P ops S E i K a w := by
  unfold opR
  cases ho' : ops[i]? with
  | none => rw [ho'] at h; simp [isStore] at h
  | some o =>
    rw [ho'] at h
    obtain ⟨dst, op, ty, pos, aft, gd⟩ := o
    cases dst with
    | some d => simp [isStore] at h
    | none => cases gd with
      | some x => cases op <;> simp [isStore] at h
      | none => cases op with
        | store t1 p1 x1 =>
          cases p1 with
          | tmp p1 => cases x1 with
            | tmp x1 =>
              simp [isStore] at h
              obtain ⟨⟨rfl, rfl⟩, rfl⟩ := h
              have := exec_store (P := P) (o := ⟨none, .store t1 (.tmp p1) (.tmp x1), ty, pos, aft, none⟩) rfl (e := a.eval) (w := w) hp hx hg hi ho h1
              simp only [Region.wanted, if_true, this, uponR]
              exact ⟨fun he => kept_setRow (hg' he), hK⟩
            | _ => simp [isStore] at h
          | _ => simp [isStore] at h
        | _ => simp [isStore] at h

theorem getD_put {a : Act} {p : Tmp} {v : Value} (hp : p < a.tmps.size) : (a.put (some p) v).tmps.getD p undef = v := by simp [Act.put, Array.getD, hp]
theorem getD_put_ne {a : Act} {p x : Tmp} {v : Value} (hx : p ≠ x) : (a.put (some p) v).tmps.getD x undef = a.tmps.getD x undef := by
  simp only [Act.put, Array.getD_eq_getD_getElem?, Array.getElem?_setIfInBounds, hx, if_false]
theorem size_put' {a : Act} {p : Tmp} {v : Value} : (a.put (some p) v).tmps.size = a.tmps.size := by simp [Act.put]

def rem1B (md : Region.Mode) (ops : Array Oper) (listed : Array Bool) (i k : Nat) (t : TypeId) (p x : Tmp) : Bool :=
  Region.ready md ops listed == [i] && Region.ready md ops (listed.setIfInBounds i true) == [k] && (Region.ready md ops ((listed.setIfInBounds i true).setIfInBounds k true)).isEmpty && isAlloc ops[i]? t p && isStore ops[k]? t p x && p != x

theorem below_later' {B : Nat} {a b c : World} (h : Below B a b) (k : Later b c) (hB : B ≤ a.heap.size) : Below B a c := h.trans (Below.mono k (Nat.le_trans hB h.size))

/-- One new variable is laid and filled. -/
theorem anyR_new1 {Q : Act → World → Prop} {f n : Nat} {listed : Array Bool} {a : Act} {w : World} (i k : Nat) (t : TypeId) (p x : Tmp) (z : Value) (cells : Array Value) (hb : rem1B md ops listed i k t p x = true) (hn : n = f + 2) (hz : (P.info? t).map (·.zero) = some (some z))
    (hi : (P.info? t).map (·.size) = some cells.size) (hzs : z.cells.size = cells.size) (hp : p < a.tmps.size) (hx : a.tmps.getD x undef = .agg cells) (h1 : cells.all (·.oneCell') = true) (hS : ∀ k, S k → k < w.heap.size)
    (h : ∀ g w', w.heap.size ≤ g → Below w.heap.size w w' → Blk w' g t cells → Q (a.put (some p) (.pointer (some ⟨g, 0, none⟩))) w') : anyR P md ops S E Q n listed a w := by
  subst hn
  simp only [rem1B, Bool.and_eq_true, beq_iff_eq, bne_iff_ne, List.isEmpty_iff] at hb
  obtain ⟨⟨⟨⟨⟨r1, r2⟩, r3⟩, ha⟩, hs⟩, hne⟩ := hb
  refine anyR_one i _ r1 (beq_self_eq_true _) fun w1 h1' => opR_alloc ha hz (fun k hk => Nat.lt_of_lt_of_le (hS k hk) h1'.size) ?_
  refine anyR_one k _ r2 (beq_self_eq_true _) fun w2 h2' => ?_
  have hbk := blk_later (Blk.new w1 t z.cells) h2'
  refine opR_store hs (getD_put hp) (by rw [getD_put_ne hne]; exact hx) hbk hi hzs h1 (fun _ hk => absurd (hS _ hk) (by have := h1'.size; omega)) ?_
  refine anyR_done r3 fun w3 h3 => h _ _ h1'.size ?_ (blk_later (blk_setRow hbk) h3)
  have b2 : Below w.heap.size w (w1.alloc (.cells z.cells t)) := Below.alloc h1' h1'.size _
  have b3 := below_later' b2 h2' (Nat.le_refl _)
  have b4 := b3.trans (below_setRow (B := w.heap.size) (w := w2) (g := w1.heap.size) (cs := cells) h1'.size)
  exact below_later' b4 h3 (Nat.le_refl _)

def rem2B (md : Region.Mode) (ops : Array Oper) (l0 : Array Bool) (i j k m : Nat) (t t' : TypeId) (p q x y : Tmp) : Bool :=
  Region.ready md ops l0 == [i, j] && Region.ready md ops (l0.setIfInBounds i true) == [j, k] && Region.ready md ops (l0.setIfInBounds j true) == [i, m] &&
  Region.ready md ops ((l0.setIfInBounds i true).setIfInBounds j true) == [k, m] && Region.ready md ops ((l0.setIfInBounds i true).setIfInBounds k true) == [j] && Region.ready md ops ((l0.setIfInBounds j true).setIfInBounds m true) == [i] &&
  Region.ready md ops (((l0.setIfInBounds i true).setIfInBounds j true).setIfInBounds k true) == [m] && Region.ready md ops (((l0.setIfInBounds i true).setIfInBounds j true).setIfInBounds m true) == [k] &&
  (Region.ready md ops ((((l0.setIfInBounds i true).setIfInBounds j true).setIfInBounds k true).setIfInBounds m true)).isEmpty &&
  isAlloc ops[i]? t p && isAlloc ops[j]? t' q && isStore ops[k]? t p x && isStore ops[m]? t' q y && p != x && p != y && q != x && q != y && p != q && i != j && i != k && i != m && j != k && j != m && k != m

def rem2P (md : Region.Mode) (ops : Array Oper) (l0 : Array Bool) (i j k m : Nat) (t t' : TypeId) (p q x y : Tmp) : Bool :=
  Region.ready md ops l0 == [i, j] && Region.ready md ops (l0.setIfInBounds i true) == [j] && Region.ready md ops (l0.setIfInBounds j true) == [i] &&
  Region.ready md ops ((l0.setIfInBounds i true).setIfInBounds j true) == [k] && Region.ready md ops (((l0.setIfInBounds i true).setIfInBounds j true).setIfInBounds k true) == [m] &&
  (Region.ready md ops ((((l0.setIfInBounds i true).setIfInBounds j true).setIfInBounds k true).setIfInBounds m true)).isEmpty &&
  isAlloc ops[i]? t p && isAlloc ops[j]? t' q && isStore ops[k]? t p x && isStore ops[m]? t' q y && p != x && p != y && q != x && q != y && p != q && i != j

theorem set_comm (l : Array Bool) {i j : Nat} (h : i ≠ j) : (l.setIfInBounds i true).setIfInBounds j true = (l.setIfInBounds j true).setIfInBounds i true := Array.setIfInBounds_comm _ _ h

theorem anyR_two {Q : Act → World → Prop} {f : Nat} {listed : Array Bool} {a : Act} {w : World} {i j : Nat} (hr : Region.ready md ops listed = [i, j])
    (h : ∀ w1, Later w w1 → opR P ops S E i (anyR P md ops S E Q f (listed.setIfInBounds i true)) a w1) (h' : ∀ w1, Later w w1 → opR P ops S E j (anyR P md ops S E Q f (listed.setIfInBounds j true)) a w1) : anyR P md ops S E Q (f + 1) listed a w := by
  refine ⟨fun h0 => ?_, fun k hk => ?_⟩
  · rw [hr] at h0; cases h0
  · rw [hr] at hk
    rcases List.mem_cons.1 hk with rfl | hk
    · exact h
    · have : k = j := by simpa using hk
      subst this; exact h'

theorem put_put (a : Act) {p q : Tmp} (h : p ≠ q) (u v : Value) : (a.put (some p) u).put (some q) v = (a.put (some q) v).put (some p) u := Act.put_comm a u v (by intro d hd e; exact h (Option.some.inj (hd.trans e.symm)))

/-- Two new variables are laid and filled, in whatever order. -/
theorem anyR_new2 {Q : Act → World → Prop} {f n : Nat} {l0 : Array Bool} {a : Act} {w : World} (i j k m : Nat) (t t' : TypeId) (p q x y : Tmp) (z z' : Value) (cs cs' : Array Value) (hb : rem2B md ops l0 i j k m t t' p q x y = true) (hn : n = f + 4)
    (hz : (P.info? t).map (·.zero) = some (some z)) (hi : (P.info? t).map (·.size) = some cs.size) (hzs : z.cells.size = cs.size) (hz' : (P.info? t').map (·.zero) = some (some z')) (hi' : (P.info? t').map (·.size) = some cs'.size) (hzs' : z'.cells.size = cs'.size)
    (hp : p < a.tmps.size) (hq : q < a.tmps.size) (hx : a.tmps.getD x undef = .agg cs) (hy : a.tmps.getD y undef = .agg cs') (h1 : cs.all (·.oneCell') = true) (h1' : cs'.all (·.oneCell') = true) (hS : ∀ k, S k → k < w.heap.size)
    (h : ∀ g g' w', w.heap.size ≤ g → w.heap.size ≤ g' → g ≠ g' → Below w.heap.size w w' → Blk w' g t cs → Blk w' g' t' cs' → Q ((a.put (some p) (.pointer (some ⟨g, 0, none⟩))).put (some q) (.pointer (some ⟨g', 0, none⟩))) w') : anyR P md ops S E Q n l0 a w := by
  subst hn
  simp only [rem2B, Bool.and_eq_true, beq_iff_eq, bne_iff_ne, List.isEmpty_iff] at hb
  have hB : w.heap.size ≤ w.heap.size := Nat.le_refl _
  have nS : ∀ g, w.heap.size ≤ g → ¬ S g := fun g hg hs => absurd (hS g hs) (by omega)
  have upS : ∀ w' : World, w.heap.size ≤ w'.heap.size → ∀ k, S k → k < w'.heap.size := fun w' hw k hk => Nat.lt_of_lt_of_le (hS k hk) hw
  obtain ⟨⟨⟨⟨⟨⟨⟨⟨⟨⟨⟨⟨⟨⟨⟨⟨⟨⟨⟨⟨⟨⟨⟨r0, ri⟩, rj⟩, rij⟩, rik⟩, rjm⟩, rijk⟩, rijm⟩, rall⟩, hai⟩, haj⟩, hsk⟩, hsm⟩, px⟩, py⟩, qx⟩, qy⟩, pq⟩, nij⟩, nik⟩, nim⟩, njk⟩, njm⟩, nkm⟩ := hb
  have eqs : ∀ u v : Value, (a.put (some q) v).put (some p) u = (a.put (some p) u).put (some q) v := fun u v => (put_put a pq u v).symm
  -- both filled: the end
  have fin : ∀ (g g' : Nat) (l : Array Bool) (w' : World), l = (((l0.setIfInBounds i true).setIfInBounds j true).setIfInBounds k true).setIfInBounds m true → w.heap.size ≤ g → w.heap.size ≤ g' → g ≠ g' → Below w.heap.size w w' → Blk w' g t cs → Blk w' g' t' cs' → ∀ f', anyR P md ops S E Q f' l ((a.put (some p) (.pointer (some ⟨g, 0, none⟩))).put (some q) (.pointer (some ⟨g', 0, none⟩))) w' :=
    fun g g' l w' hl hg hg' hne hb hc hc' f' => by
      subst hl
      exact anyR_done rall fun w3 h3 => h g g' w3 hg hg' hne (below_later' hb h3 hB) (blk_later hc h3) (blk_later hc' h3)
  -- both laid
  have both : ∀ (g g' : Nat) (l : Array Bool) (w' : World), l = (l0.setIfInBounds i true).setIfInBounds j true → w.heap.size ≤ g → w.heap.size ≤ g' → g ≠ g' → Below w.heap.size w w' → Blk w' g t z.cells → Blk w' g' t' z'.cells →
      anyR P md ops S E Q (f + 2) l ((a.put (some p) (.pointer (some ⟨g, 0, none⟩))).put (some q) (.pointer (some ⟨g', 0, none⟩))) w' := fun g g' l w' hl hg hg' hne hb hc hc' => by
    subst hl
    have vp : ((a.put (some p) (.pointer (some ⟨g, 0, none⟩))).put (some q) (.pointer (some ⟨g', 0, none⟩))).tmps.getD p undef = .pointer (some ⟨g, 0, none⟩) := by rw [getD_put_ne (Ne.symm pq), getD_put hp]
    have vq : ((a.put (some p) (.pointer (some ⟨g, 0, none⟩))).put (some q) (.pointer (some ⟨g', 0, none⟩))).tmps.getD q undef = .pointer (some ⟨g', 0, none⟩) := getD_put (by rw [size_put']; exact hq)
    have vx : ((a.put (some p) (.pointer (some ⟨g, 0, none⟩))).put (some q) (.pointer (some ⟨g', 0, none⟩))).tmps.getD x undef = .agg cs := by rw [getD_put_ne qx, getD_put_ne px, hx]
    have vy : ((a.put (some p) (.pointer (some ⟨g, 0, none⟩))).put (some q) (.pointer (some ⟨g', 0, none⟩))).tmps.getD y undef = .agg cs' := by rw [getD_put_ne qy, getD_put_ne py, hy]
    refine anyR_two rij (fun w1 hl1 => opR_store hsk vp vx (blk_later hc hl1) hi hzs h1 (fun _ => nS _ (Nat.le_trans hB hg)) ?_) (fun w1 hl1 => opR_store hsm vq vy (blk_later hc' hl1) hi' hzs' h1' (fun _ => nS _ (Nat.le_trans hB hg')) ?_)
    · refine anyR_one m _ rijk (beq_self_eq_true _) fun w2 hl2 => opR_store hsm vq vy (blk_later (blk_setRow_other (blk_later hc' hl1) (Ne.symm hne)) hl2) hi' hzs' h1' (fun _ => nS _ (Nat.le_trans hB hg')) ?_
      exact fin g g' _ _ rfl hg hg' hne ((below_later' ((below_later' hb hl1 hB).trans (below_setRow (Nat.le_trans hB hg))) hl2 hB).trans (below_setRow (Nat.le_trans hB hg'))) (blk_setRow_other (blk_later (blk_setRow (blk_later hc hl1)) hl2) hne) (blk_setRow (blk_later (blk_setRow_other (blk_later hc' hl1) (Ne.symm hne)) hl2)) _
    · refine anyR_one k _ rijm (beq_self_eq_true _) fun w2 hl2 => opR_store hsk vp vx (blk_later (blk_setRow_other (blk_later hc hl1) hne) hl2) hi hzs h1 (fun _ => nS _ (Nat.le_trans hB hg)) ?_
      exact fin g g' _ _ (set_comm _ (Ne.symm nkm)) hg hg' hne ((below_later' ((below_later' hb hl1 hB).trans (below_setRow (Nat.le_trans hB hg'))) hl2 hB).trans (below_setRow (Nat.le_trans hB hg))) (blk_setRow (blk_later (blk_setRow_other (blk_later hc hl1) hne) hl2)) (blk_setRow_other (blk_later (blk_setRow (blk_later hc' hl1)) hl2) (Ne.symm hne)) _
  refine anyR_two r0 (fun w1 hl1 => opR_alloc hai hz (upS _ hl1.size) ?_) (fun w1 hl1 => opR_alloc haj hz' (upS _ hl1.size) ?_)
  · have b1 : Below w.heap.size w (w1.alloc (.cells z.cells t)) := Below.alloc (Below.mono hl1 hB) (Nat.le_trans hB hl1.size) _
    refine anyR_two ri (fun w2 hl2 => opR_alloc haj hz' (upS _ (by have := b1.size; have := hl2.size; omega)) ?_) (fun w2 hl2 => opR_store hsk (getD_put hp) (by rw [getD_put_ne px]; exact hx) (blk_later (Blk.new w1 t z.cells) hl2) hi hzs h1 (fun _ => nS _ (Nat.le_trans hB hl1.size)) ?_)
    · refine both w1.heap.size w2.heap.size _ _ rfl hl1.size (by have := b1.size; have := hl2.size; omega) (by have := hl2.size; simp at this; omega) ((below_later' b1 hl2 hB).alloc (by have := b1.size; have := hl2.size; omega) _) ((blk_later (Blk.new w1 t z.cells) hl2).alloc _) (Blk.new _ _ _)
    · refine anyR_one j _ rik (beq_self_eq_true _) fun w3 hl3 => opR_alloc haj hz' (upS _ (by have := b1.size; have := hl2.size; have := hl3.size; rw [size_setRow'] at this; omega)) ?_
      have hs3 := hl3.size
      rw [size_setRow'] at hs3
      have b3 := (below_later' ((below_later' b1 hl2 hB).trans (below_setRow (cs := cs) (Nat.le_trans hB hl1.size))) hl3 hB).alloc (o := .cells z'.cells t') (by have := b1.size; have := hl2.size; omega)
      have bk3 : Blk (w3.alloc (.cells z'.cells t')) w1.heap.size t cs := (blk_later (blk_setRow (blk_later (Blk.new w1 t z.cells) hl2)) hl3).alloc _
      have ne3 : w1.heap.size ≠ w3.heap.size := by have := hl2.size; simp at this; omega
      refine anyR_one m _ (by rw [show ((l0.setIfInBounds i true).setIfInBounds k true).setIfInBounds j true = ((l0.setIfInBounds i true).setIfInBounds j true).setIfInBounds k true from set_comm _ (Ne.symm njk)]; exact rijk) (beq_self_eq_true _) fun w4 hl4 => ?_
      refine opR_store hsm (getD_put (by rw [size_put']; exact hq)) (by rw [getD_put_ne qy, getD_put_ne py]; exact hy) (blk_later (Blk.new w3 t' z'.cells) hl4) hi' hzs' h1' (fun _ => nS _ (by have := b1.size; have := hl2.size; omega)) ?_
      exact fin w1.heap.size w3.heap.size _ _ (by rw [show ((l0.setIfInBounds i true).setIfInBounds k true).setIfInBounds j true = ((l0.setIfInBounds i true).setIfInBounds j true).setIfInBounds k true from set_comm _ (Ne.symm njk)]) hl1.size (by have := b1.size; have := hl2.size; omega) ne3
        ((below_later' b3 hl4 hB).trans (below_setRow (by have := b1.size; have := hl2.size; omega))) (blk_setRow_other (blk_later bk3 hl4) ne3) (blk_setRow (blk_later (Blk.new w3 t' z'.cells) hl4)) _
  · have b1 : Below w.heap.size w (w1.alloc (.cells z'.cells t')) := Below.alloc (Below.mono hl1 hB) (Nat.le_trans hB hl1.size) _
    refine anyR_two rj (fun w2 hl2 => opR_alloc hai hz (upS _ (by have := b1.size; have := hl2.size; omega)) ?_) (fun w2 hl2 => opR_store hsm (getD_put hq) (by rw [getD_put_ne qy]; exact hy) (blk_later (Blk.new w1 t' z'.cells) hl2) hi' hzs' h1' (fun _ => nS _ (Nat.le_trans hB hl1.size)) ?_)
    · rw [eqs]
      refine both w2.heap.size w1.heap.size _ _ (set_comm _ (Ne.symm nij)) (by have := b1.size; have := hl2.size; omega) hl1.size (by have := hl2.size; simp at this; omega) ((below_later' b1 hl2 hB).alloc (by have := b1.size; have := hl2.size; omega) _) (Blk.new _ _ _) ((blk_later (Blk.new w1 t' z'.cells) hl2).alloc _)
    · refine anyR_one i _ rjm (beq_self_eq_true _) fun w3 hl3 => opR_alloc hai hz (upS _ (by have := b1.size; have := hl2.size; have := hl3.size; rw [size_setRow'] at this; omega)) ?_
      have hs3 := hl3.size
      rw [size_setRow'] at hs3
      have b3 := (below_later' ((below_later' b1 hl2 hB).trans (below_setRow (cs := cs') (Nat.le_trans hB hl1.size))) hl3 hB).alloc (o := .cells z.cells t) (by have := b1.size; have := hl2.size; omega)
      have bk3 : Blk (w3.alloc (.cells z.cells t)) w1.heap.size t' cs' := (blk_later (blk_setRow (blk_later (Blk.new w1 t' z'.cells) hl2)) hl3).alloc _
      have ne3 : w3.heap.size ≠ w1.heap.size := by have := hl2.size; simp at this; omega
      have el : ((l0.setIfInBounds j true).setIfInBounds m true).setIfInBounds i true = ((l0.setIfInBounds i true).setIfInBounds j true).setIfInBounds m true := by rw [set_comm _ (Ne.symm nim), set_comm l0 (Ne.symm nij)]
      rw [eqs]
      refine anyR_one k _ (by rw [el]; exact rijm) (beq_self_eq_true _) fun w4 hl4 => ?_
      refine opR_store hsk (by rw [getD_put_ne (Ne.symm pq)]; exact getD_put hp) (by rw [getD_put_ne qx, getD_put_ne px]; exact hx) (blk_later (Blk.new w3 t z.cells) hl4) hi hzs h1 (fun _ => nS _ (by have := b1.size; have := hl2.size; omega)) ?_
      exact fin w3.heap.size w1.heap.size _ _ (by rw [el]; exact set_comm _ (Ne.symm nkm)) (by have := b1.size; have := hl2.size; omega) hl1.size ne3
        ((below_later' b3 hl4 hB).trans (below_setRow (by have := b1.size; have := hl2.size; omega))) (blk_setRow (blk_later (Blk.new w3 t z.cells) hl4)) (blk_setRow_other (blk_later bk3 hl4) (Ne.symm ne3)) _

/-- Two new variables are laid, in whatever order, and then filled one behind the other. -/
theorem anyR_pair {Q : Act → World → Prop} {f n : Nat} {l0 : Array Bool} {a : Act} {w : World} (i j k m : Nat) (t t' : TypeId) (p q x y : Tmp) (z z' : Value) (cs cs' : Array Value) (hb : rem2P md ops l0 i j k m t t' p q x y = true) (hn : n = f + 4)
    (hz : (P.info? t).map (·.zero) = some (some z)) (hi : (P.info? t).map (·.size) = some cs.size) (hzs : z.cells.size = cs.size) (hz' : (P.info? t').map (·.zero) = some (some z')) (hi' : (P.info? t').map (·.size) = some cs'.size) (hzs' : z'.cells.size = cs'.size)
    (hp : p < a.tmps.size) (hq : q < a.tmps.size) (hx : a.tmps.getD x undef = .agg cs) (hy : a.tmps.getD y undef = .agg cs') (h1 : cs.all (·.oneCell') = true) (h1' : cs'.all (·.oneCell') = true) (hS : ∀ k, S k → k < w.heap.size)
    (h : ∀ g g' w', w.heap.size ≤ g → w.heap.size ≤ g' → g ≠ g' → Below w.heap.size w w' → Blk w' g t cs → Blk w' g' t' cs' → Q ((a.put (some p) (.pointer (some ⟨g, 0, none⟩))).put (some q) (.pointer (some ⟨g', 0, none⟩))) w') : anyR P md ops S E Q n l0 a w := by
  subst hn
  simp only [rem2P, Bool.and_eq_true, beq_iff_eq, bne_iff_ne, List.isEmpty_iff] at hb
  obtain ⟨⟨⟨⟨⟨⟨⟨⟨⟨⟨⟨⟨⟨⟨⟨r0, ri⟩, rj⟩, rij⟩, rijk⟩, rall⟩, hai⟩, haj⟩, hsk⟩, hsm⟩, px⟩, py⟩, qx⟩, qy⟩, pq⟩, nij⟩ := hb
  have hB : w.heap.size ≤ w.heap.size := Nat.le_refl _
  have nS : ∀ g, w.heap.size ≤ g → ¬ S g := fun g hg hs => absurd (hS g hs) (by omega)
  have upS : ∀ w' : World, w.heap.size ≤ w'.heap.size → ∀ k, S k → k < w'.heap.size := fun w' hw k hk => Nat.lt_of_lt_of_le (hS k hk) hw
  have eqs : ∀ u v : Value, (a.put (some q) v).put (some p) u = (a.put (some p) u).put (some q) v := fun u v => (put_put a pq u v).symm
  have both : ∀ (g g' : Nat) (l : Array Bool) (w' : World), l = (l0.setIfInBounds i true).setIfInBounds j true → w.heap.size ≤ g → w.heap.size ≤ g' → g ≠ g' → Below w.heap.size w w' → Blk w' g t z.cells → Blk w' g' t' z'.cells →
      anyR P md ops S E Q (f + 2) l ((a.put (some p) (.pointer (some ⟨g, 0, none⟩))).put (some q) (.pointer (some ⟨g', 0, none⟩))) w' := fun g g' l w' hl hg hg' hne hb hc hc' => by
    subst hl
    have vp : ((a.put (some p) (.pointer (some ⟨g, 0, none⟩))).put (some q) (.pointer (some ⟨g', 0, none⟩))).tmps.getD p undef = .pointer (some ⟨g, 0, none⟩) := by rw [getD_put_ne (Ne.symm pq), getD_put hp]
    have vq : ((a.put (some p) (.pointer (some ⟨g, 0, none⟩))).put (some q) (.pointer (some ⟨g', 0, none⟩))).tmps.getD q undef = .pointer (some ⟨g', 0, none⟩) := getD_put (by rw [size_put']; exact hq)
    have vx : ((a.put (some p) (.pointer (some ⟨g, 0, none⟩))).put (some q) (.pointer (some ⟨g', 0, none⟩))).tmps.getD x undef = .agg cs := by rw [getD_put_ne qx, getD_put_ne px, hx]
    have vy : ((a.put (some p) (.pointer (some ⟨g, 0, none⟩))).put (some q) (.pointer (some ⟨g', 0, none⟩))).tmps.getD y undef = .agg cs' := by rw [getD_put_ne qy, getD_put_ne py, hy]
    refine anyR_one k _ rij (beq_self_eq_true _) fun w1 hl1 => opR_store hsk vp vx (blk_later hc hl1) hi hzs h1 (fun _ => nS _ hg) ?_
    refine anyR_one m _ rijk (beq_self_eq_true _) fun w2 hl2 => opR_store hsm vq vy (blk_later (blk_setRow_other (blk_later hc' hl1) (Ne.symm hne)) hl2) hi' hzs' h1' (fun _ => nS _ hg') ?_
    exact anyR_done rall fun w3 h3 => h g g' w3 hg hg' hne (below_later' ((below_later' ((below_later' hb hl1 hB).trans (below_setRow hg)) hl2 hB).trans (below_setRow hg')) h3 hB)
      (blk_later (blk_setRow_other (blk_later (blk_setRow (blk_later hc hl1)) hl2) hne) h3) (blk_later (blk_setRow (blk_later (blk_setRow_other (blk_later hc' hl1) (Ne.symm hne)) hl2)) h3)
  refine anyR_two r0 (fun w1 hl1 => opR_alloc hai hz (upS _ hl1.size) ?_) (fun w1 hl1 => opR_alloc haj hz' (upS _ hl1.size) ?_)
  · have b1 : Below w.heap.size w (w1.alloc (.cells z.cells t)) := Below.alloc hl1 hl1.size _
    refine anyR_one j _ ri (beq_self_eq_true _) fun w2 hl2 => opR_alloc haj hz' (upS _ (by have := b1.size; have := hl2.size; omega)) ?_
    exact both w1.heap.size w2.heap.size _ _ rfl hl1.size (by have := b1.size; have := hl2.size; omega) (by have := hl2.size; simp at this; omega) ((below_later' b1 hl2 hB).alloc (by have := b1.size; have := hl2.size; omega) _) ((blk_later (Blk.new w1 t z.cells) hl2).alloc _) (Blk.new _ _ _)
  · have b1 : Below w.heap.size w (w1.alloc (.cells z'.cells t')) := Below.alloc hl1 hl1.size _
    refine anyR_one i _ rj (beq_self_eq_true _) fun w2 hl2 => opR_alloc hai hz (upS _ (by have := b1.size; have := hl2.size; omega)) ?_
    rw [eqs]
    exact both w2.heap.size w1.heap.size _ _ (set_comm _ (Ne.symm nij)) (by have := b1.size; have := hl2.size; omega) hl1.size (by have := hl2.size; simp at this; omega) ((below_later' b1 hl2 hB).alloc (by have := b1.size; have := hl2.size; omega) _) (Blk.new _ _ _) ((blk_later (Blk.new w1 t' z'.cells) hl2).alloc _)

def rem0B (md : Region.Mode) (ops : Array Oper) (listed : Array Bool) (i : Nat) (t : TypeId) (p x : Tmp) : Bool :=
  Region.ready md ops listed == [i] && (Region.ready md ops (listed.setIfInBounds i true)).isEmpty && isStore ops[i]? t p x
theorem grown_later {a b c : World} {row : Option Nat} (h : Later a b) (k : b.grownBy c row) : a.grownBy c row :=
  ⟨k.os.trans h.os, k.tape.trans h.tape, k.output.trans h.output, Nat.le_trans h.size k.size, fun i hi hne => (k.block i (Nat.lt_of_lt_of_le hi h.size) hne).trans (h.block i hi)⟩
theorem later_grown {a b c : World} {row : Option Nat} (k : a.grownBy b row) (h : Later b c) : a.grownBy c row :=
  ⟨h.os.trans k.os, h.tape.trans k.tape, h.output.trans k.output, Nat.le_trans k.size h.size, fun i hi hne => (h.block i (Nat.lt_of_lt_of_le hi k.size)).trans (k.block i hi hne)⟩
theorem grown_setRow (w : World) (g : Nat) (cs : Array Value) : w.grownBy (w.setRow g cs) (some g) :=
  ⟨rfl, rfl, rfl, by simp [World.setRow], fun k _ hne => by
    have : g ≠ k := fun e => hne (by rw [e])
    simp [World.setRow, Array.getElem?_modify, this]⟩

/-- One variable that is there is filled. -/
theorem anyR_fill {Q : Act → World → Prop} {f n : Nat} {listed : Array Bool} {a : Act} {w : World} (i : Nat) (t t' : TypeId) (p x : Tmp) (g : Nat) (old cells : Array Value) (hb : rem0B md ops listed i t p x = true) (hn : n = f + 1)
    (hp : a.tmps.getD p undef = .pointer (some ⟨g, 0, none⟩)) (hx : a.tmps.getD x undef = .agg cells) (hg : Blk w g t' old) (hi : (P.info? t).map (·.size) = some cells.size) (ho : old.size = cells.size) (h1 : cells.all (·.oneCell') = true) (hE : E i = true → ¬ S g)
    (h : ∀ w', w.grownBy w' (some g) → Blk w' g t' cells → Q a w') : anyR P md ops S E Q n listed a w := by
  subst hn
  simp only [rem0B, Bool.and_eq_true, beq_iff_eq, List.isEmpty_iff] at hb
  obtain ⟨⟨r1, r2⟩, hs⟩ := hb
  refine anyR_one i _ r1 (beq_self_eq_true _) fun w1 h1' => opR_store hs hp hx (blk_later hg h1') hi ho h1 hE ?_
  exact anyR_done r2 fun w2 h2 => h w2 (later_grown (grown_later h1' (grown_setRow w1 g cells)) h2) (blk_later (blk_setRow (blk_later hg h1')) h2)
theorem liftB {D : World → Prop} {B : Nat} {w : World} (hD : Good (fun k => k < B) w D) {b o : Nat} {v : Value} (h : w.cell? ⟨b, o, none⟩ = some v) (hb : b < B) (x : Of D) : x.val.cell? ⟨b, o, none⟩ = some v := lift hD h hb x
theorem Blk.c {w : World} {g : Nat} {t : TypeId} {cs : Array Value} (h : Blk w g t cs) (i : Nat) {v : Value} (hi : cs[i]? = some v) : w.cell? ⟨g, i, none⟩ = some v := (h.cell i).trans hi
end
theorem onward {a b c : World} (h : Below a.heap.size a b) (k : Below b.heap.size b c) : Below a.heap.size a c := below_later' h k (Nat.le_refl _)
theorem quiet_left {P : Program} {f : FuncId} {args : Array Value} {w : World} {n : Nat} {v : Value}
    (h : Calls P f args (w.drewN n) fun e w' => e = .returned v ∧ w.drewN n = w') : Calls P f args (w.drewN n) fun e w'' => e = .returned v ∧ ∃ m, w'' = w.drewN m :=
  h.mono fun _ _ ⟨he, hm⟩ => ⟨he, n, hm.symm⟩
theorem blk_new_at {w : World} {t : TypeId} {cs : Array Value} {g : Nat} (h : g = w.heap.size) : Blk (w.alloc (.cells cs t)) g t cs := by subst h; exact Blk.new _ _ _
theorem Blk.c2 {w : World} {g : Nat} {t : TypeId} {u v : Value} (h : Blk w g t #[u, v]) : w.cell? ⟨g, 0, none⟩ = some u ∧ w.cell? ⟨g, 1, none⟩ = some v := ⟨h.c 0 rfl, h.c 1 rfl⟩
theorem Blk.c3 {w : World} {g : Nat} {t : TypeId} {u v x : Value} (h : Blk w g t #[u, v, x]) : w.cell? ⟨g, 0, none⟩ = some u ∧ w.cell? ⟨g, 1, none⟩ = some v ∧ w.cell? ⟨g, 2, none⟩ = some x := ⟨h.c 0 rfl, h.c 1 rfl, h.c 2 rfl⟩
theorem Blk.c4 {w : World} {g : Nat} {t : TypeId} {u v x y : Value} (h : Blk w g t #[u, v, x, y]) : w.cell? ⟨g, 0, none⟩ = some u ∧ w.cell? ⟨g, 1, none⟩ = some v ∧ w.cell? ⟨g, 2, none⟩ = some x ∧ w.cell? ⟨g, 3, none⟩ = some y := ⟨h.c 0 rfl, h.c 1 rfl, h.c 2 rfl, h.c 3 rfl⟩
theorem one2 (a b : Int) : (#[.int .i64 a, .int .i64 b] : Array Value).all (·.oneCell') = true := by simp [Value.oneCell']
theorem one3 (a b c : Int) : (#[.int .i64 a, .int .i64 b, .int .i64 c] : Array Value).all (·.oneCell') = true := by simp [Value.oneCell']
theorem one4 (a b c d : Int) : (#[.int .i64 a, .int .i64 b, .int .i64 c, .int .i64 d] : Array Value).all (·.oneCell') = true := by simp [Value.oneCell']
end Go.Proofs.Ytiggefmckomilaa
namespace Go.Proofs.Ytiggefmckomilaa
open Go Go.RowKit

theorem own_later {w w' : World} {base : Nat} {e : TypeId} {size n : Nat} {v : Value} {xs : List Value} (h : w.ownsRow base e size v n xs) (hl : Later w w') : w'.ownsRow base e size v n xs := by
  refine ⟨h.1, ?_⟩
  rcases h.2 with h0 | ⟨g, cap, cur, hv, hb, hg, r⟩
  · exact .inl h0
  · refine .inr ⟨g, cap, cur, hv, hb, ?_, r⟩
    have hlt : g < w.heap.size := (Array.getElem?_eq_some_iff.1 hg).1
    rw [hl.block g hlt]; exact hg

theorem kb {D : World → Prop} {B : Nat} {w : World} (hD : Good (fun k => k < B) w D) (x : Of D) : Below B w x.val := by
  have h := hD.low _ x.ok
  exact ⟨h.os, h.tape, h.output, h.size, h.block⟩
section
variable {P : Program} {md : Region.Mode} {ops : Array Oper} {S : Nat → Prop} {E : Nat → Bool}

theorem opR_of {i : Nat} {o : Oper} (h : ops[i]? = some o) (hg : o.guard = none) {K : Act → World → Prop} {a : Act} {w : World} (hk : uponR P S (E i) o a w K ((execOp a.eval o).run P w)) : opR P ops S E i K a w := by
  unfold opR
  simp only [h, Region.wanted, hg, if_true]
  exact hk

theorem opR_build1 {i : Nat} {oi : Oper} {t e : TypeId} {p x : Tmp} {cells : Array Value} (h : ops[i]? = some oi) (hop : oi.op = .buildSlice t 1 #[(0, .tmp x)]) (hd : oi.dst = some p) (hg : oi.guard = none) {K : Act → World → Prop} {a : Act} {w : World}
    (hrun : (Instr.buildSlice t 1 #[(0, a.tmps.getD x undef)]).run P w = .ok (.slice (some ⟨w.heap.size, 0, none⟩) 1 1) (w.alloc (.cells cells e))) (hS : ∀ k, S k → k < w.heap.size)
    (hK : K (a.put (some p) (.slice (some ⟨w.heap.size, 0, none⟩) 1 1)) (w.alloc (.cells cells e))) : opR P ops S E i K a w := by
  refine opR_of h hg ?_
  have e1 : (execOp a.eval oi).run P w = .ok (.value (.slice (some ⟨w.heap.size, 0, none⟩) 1 1)) (w.alloc (.cells cells e)) := by
    simp only [execOp, hop, List.map_toArray, List.map_cons, List.map_nil, Act.eval, Sem.run_bind, hrun, Result.andThen_ok, Sem.run_pure]
  rw [e1]
  exact ⟨fun _ => kept_alloc _ hS, by rw [hd]; exact hK⟩

theorem opR_append {i : Nat} {oi : Oper} {t : TypeId} {s p q : Tmp} (h : ops[i]? = some oi) (hop : oi.op = .call { callee := .builtin .append, args := #[.tmp s, .tmp p], argTypes := #[t, t] }) (hd : oi.dst = some q) (hg : oi.guard = none) {K : Act → World → Prop} {a : Act} {w : World}
    (base : Nat) (e : TypeId) (i0 : TypeInfo) (z : Value) (size bytes : Nat) (ht : P.underlying t = some (.slice e)) (hi : P.info? e = some i0) (hz : i0.zero = some z)
    (hsize : i0.size = size) (hby : i0.bytes = bytes) (hzs : z.cells.size = size) (hsz : 0 < size)
    (v : Value) (n : Nat) (xs : List Value) (hs : a.tmps.getD s undef = v) (hown : w.ownsRow base e size v n xs)
    (ad : Addr) (m c : Nat) (news : List Value) (hx : a.tmps.getD p undef = .slice (some ad) m c) (hl : news.length = m * size) (hnews : ∀ j u, news[j]? = some u → w.cell? (ad.add j) = some u) (h1 : ∀ u ∈ news, u.oneCell' = true)
    (h63 : n + m ≤ maxLen) (hbytes : (n + m) * bytes ≤ 140737488355328) (hbase : base ≤ w.heap.size) (hE : E i = true → ∀ g, v.ownBlock = some g → ¬ S g) (hS : ∀ k, S k → k < w.heap.size)
    (hK : ∀ v' w', w'.ownsRow base e size v' (n + m) (xs ++ news) → w.grownBy w' v.ownBlock → K (a.put (some q) v') w') : opR P ops S E i K a w := by
  refine opR_of h hg ?_
  obtain ⟨v', w', hrun, h2, h3, _⟩ := run_append_own (P := P) w base t oi.type e i0 z size bytes ht hi hz hsize hby hzs hsz v n xs hown ad m c news hl hnews h1 h63 hbytes hbase
  have e1 : (execOp a.eval oi).run P w = .ok (.value v') w' := by
    simp only [execOp, hop, resolve, invoke, builtin, Sem.run_bind, Sem.run_pure, Result.andThen_ok, List.map_toArray, List.map_cons, List.map_nil, Act.eval, hs, hx, hrun]
  rw [e1]
  exact ⟨fun he => ⟨h3.os, h3.tape, h3.output, h3.size, fun k hk => h3.block k (hS k hk) fun e2 => hE he k e2.symm hk⟩, by rw [hd]; exact hK v' w' h2 h3⟩

theorem opR_assign {i : Nat} {oi : Oper} {q r : Tmp} (h : ops[i]? = some oi) (hop : oi.op = .assign (.tmp q)) (hd : oi.dst = some r) (hg : oi.guard = none) {K : Act → World → Prop} {a : Act} {w : World} (hK : K (a.put (some r) (a.tmps.getD q undef)) w) : opR P ops S E i K a w := by
  refine opR_of h hg ?_
  have e1 : (execOp a.eval oi).run P w = .ok (.value (a.tmps.getD q undef)) w := by
    simp only [execOp, hop, Act.eval, Sem.run_pure]
  rw [e1]
  exact ⟨fun _ => Kept.refl _ _, by rw [hd]; exact hK⟩

def pushB (md : Region.Mode) (ops : Array Oper) (l0 : Array Bool) (i k m : Nat) : Bool :=
  Region.ready md ops l0 == [i] && Region.ready md ops (l0.setIfInBounds i true) == [k] && Region.ready md ops ((l0.setIfInBounds i true).setIfInBounds k true) == [m] &&
  (Region.ready md ops (((l0.setIfInBounds i true).setIfInBounds k true).setIfInBounds m true)).isEmpty

/-- 'out = append(out, x)', x a struct: what is left of it. -/
theorem anyR_push {Q : Act → World → Prop} {f nn : Nat} {l0 : Array Bool} {a : Act} {w : World} (i k m : Nat) (t e : TypeId) (s p q r x : Tmp) (hb : pushB md ops l0 i k m = true) (hps : p ≠ s) {oi ok om : Oper} (hi' : ops[i]? = some oi) (hio : oi.op = .buildSlice t 1 #[(0, .tmp x)]) (hid : oi.dst = some p) (hig : oi.guard = none)
    (hk' : ops[k]? = some ok) (hko : ok.op = .call { callee := .builtin .append, args := #[.tmp s, .tmp p], argTypes := #[t, t] }) (hkd : ok.dst = some q) (hkg : ok.guard = none) (hm' : ops[m]? = some om) (hmo : om.op = .assign (.tmp q)) (hmd : om.dst = some r) (hmg : om.guard = none) (hn : nn = f + 3)
    (base : Nat) (i0 : TypeInfo) (z : Value) (size bytes : Nat) (ht : P.underlying t = some (.slice e)) (hi : P.info? e = some i0) (hz : i0.zero = some z) (hsize : i0.size = size) (hby : i0.bytes = bytes) (hzs : z.cells.size = size) (hsz : 0 < size)
    (cells : Array Value) (hrun : ∀ w, (Instr.buildSlice t 1 #[(0, a.tmps.getD x undef)]).run P w = .ok (.slice (some ⟨w.heap.size, 0, none⟩) 1 1) (w.alloc (.cells cells e))) (hc : cells.size = size) (h1 : cells.all (·.oneCell') = true)
    (v : Value) (n : Nat) (xs : List Value) (hs : a.tmps.getD s undef = v) (hp : p < a.tmps.size) (hq : q < a.tmps.size) (hown : w.ownsRow base e size v n xs) (h63 : n + 1 ≤ maxLen) (hbytes : (n + 1) * bytes ≤ 140737488355328) (hbase : base ≤ w.heap.size)
    (hE : E k = true → ∀ g, v.ownBlock = some g → ¬ S g) (hS : ∀ k, S k → k < w.heap.size)
    (h : ∀ g v' w', w'.ownsRow base e size v' (n + 1) (xs ++ cells.toList) → w.grownBy w' v.ownBlock → Q (((a.put (some p) (.slice (some ⟨g, 0, none⟩) 1 1)).put (some q) v').put (some r) v') w') : anyR P md ops S E Q nn l0 a w := by
  subst hn
  simp only [pushB, Bool.and_eq_true, beq_iff_eq, List.isEmpty_iff] at hb
  obtain ⟨⟨⟨r1, r2⟩, r3⟩, r4⟩ := hb
  have upS : ∀ w' : World, w.heap.size ≤ w'.heap.size → ∀ k, S k → k < w'.heap.size := fun w' hw k hk => Nat.lt_of_lt_of_le (hS k hk) hw
  refine anyR_one i _ r1 (beq_self_eq_true _) fun w1 l1 => opR_build1 hi' hio hid hig (hrun w1) (upS _ l1.size) ?_
  refine anyR_one k _ r2 (beq_self_eq_true _) fun w2 l2 => ?_
  have hsz2 := l2.size
  simp only [World.size_alloc] at hsz2
  have hsz1 := l1.size
  have hbk := blk_later (Blk.new w1 e cells) l2
  have hown2 : w2.ownsRow base e size v n xs := own_later ((own_later hown l1).alloc _) l2
  have grow2 : w.grownBy w2 v.ownBlock := later_grown (grown_later l1 (World.grownBy_alloc w1 _ _)) l2
  refine opR_append hk' hko hkd hkg base e i0 z size bytes ht hi hz hsize hby hzs hsz v n xs (by rw [getD_put_ne hps]; exact hs) hown2 ⟨w1.heap.size, 0, none⟩ 1 1 cells.toList (getD_put hp) (by simp [hc]) (fun j u hu => ?_)
    (fun u hu => (Array.all_eq_true_iff_forall_mem.1 h1) u (by simpa using hu)) h63 hbytes (by omega) hE (upS _ (by omega)) fun v' w' hown' hg' => ?_
  · have := hbk.cell j
    rw [show (⟨w1.heap.size, 0, none⟩ : Addr).add j = ⟨w1.heap.size, j, none⟩ by unfold Addr.add; split <;> simp_all]
    rw [this]; simpa using hu
  · refine anyR_one m _ r3 (beq_self_eq_true _) fun w3 l3 => opR_assign hm' hmo hmd hmg ?_
    refine anyR_done r4 fun w4 l4 => ?_
    rw [getD_put (by rw [size_put']; exact hq)]
    have g' : w.grownBy w' v.ownBlock := ⟨hg'.os.trans grow2.os, hg'.tape.trans grow2.tape, hg'.output.trans grow2.output, Nat.le_trans grow2.size hg'.size, fun i hi hne => (hg'.block i (Nat.lt_of_lt_of_le hi grow2.size) hne).trans (grow2.block i hi hne)⟩
    exact h _ _ _ (own_later hown' (l3.trans l4)) (later_grown g' (l3.trans l4))

/-- A store into some cells of a block that is known whole. -/
theorem exec_store_at {o : Oper} {t t' : TypeId} {p x : Operand} {g off : Nat} {old cells : Array Value} (h : o.op = .store t p x) {e : Operand → Value} {w : World} (hp : e p = .pointer (some ⟨g, off, none⟩)) (hx : e x = .agg cells)
    (hg : Blk w g t' old) (hi : (P.info? t).map (·.size) = some cells.size) (ho : off + cells.size ≤ old.size) (h1 : cells.all (·.oneCell') = true) :
    (execOp e o).run P w = .ok .skip (w.setRow g (old.toList.take off ++ cells.toList ++ old.toList.drop (off + cells.size)).toArray) := by
  have := run_storeCells_at (P := P) g off t' cells.toList 0 old w hg (by simp; omega) (fun v hv => (Array.all_eq_true_iff_forall_mem.1 h1) v (by simpa using hv))
  simp at this
  cases hq : P.info? t with
  | none => simp [hq] at hi
  | some i =>
    have hs : i.size = cells.size := by simpa [hq] using hi
    simp [execOp, h, hp, hx, go_sem, sizeOf, typeInfo, hq, hs, this]
/-- Some cells of a block are filled, behind all else. -/
theorem anyR_fill_at {Q : Act → World → Prop} {f n : Nat} {listed : Array Bool} {a : Act} {w : World} (i : Nat) (t t' : TypeId) (p x : Tmp) (g off : Nat) (old cells new : Array Value) (hb : rem0B md ops listed i t p x = true) (hn : n = f + 1)
    (hp : a.tmps.getD p undef = .pointer (some ⟨g, off, none⟩)) (hx : a.tmps.getD x undef = .agg cells) (hg : Blk w g t' old) (hi : (P.info? t).map (·.size) = some cells.size) (ho : off + cells.size ≤ old.size) (h1 : cells.all (·.oneCell') = true)
    (hnew : (old.toList.take off ++ cells.toList ++ old.toList.drop (off + cells.size)).toArray = new) (hE : E i = true → ¬ S g)
    (h : ∀ w', w.grownBy w' (some g) → Blk w' g t' new → Q a w') : anyR P md ops S E Q n listed a w := by
  subst hn
  subst hnew
  simp only [rem0B, Bool.and_eq_true, beq_iff_eq, List.isEmpty_iff] at hb
  obtain ⟨⟨r1, r2⟩, hs⟩ := hb
  refine anyR_one i _ r1 (beq_self_eq_true _) fun w1 h1' => ?_
  unfold isStore at hs
  split at hs
  · rename_i t1 p1 x1 ty pos aft heq
    simp only [Bool.and_eq_true, beq_iff_eq] at hs
    obtain ⟨⟨rfl, rfl⟩, rfl⟩ := hs
    refine opR_of heq rfl ?_
    rw [exec_store_at (P := P) (o := ⟨none, .store t1 (.tmp p1) (.tmp x1), ty, pos, aft, none⟩) rfl (e := a.eval) (w := w1) hp hx (blk_later hg h1') hi ho h1]
    refine ⟨fun he => kept_setRow (hE he), ?_⟩
    exact anyR_done r2 fun w2 h2 => h w2 (later_grown (grown_later h1' (grown_setRow w1 g _)) h2) (blk_later (blk_setRow (blk_later hg h1')) h2)
  · cases hs
end
theorem own_ne {w : World} {base g : Nat} {e t : TypeId} {size n : Nat} {v : Value} {xs : List Value} {cs : Array Value} (h : w.ownsRow base e size v n xs) (hg : Blk w g t cs) (hne : e ≠ t) : v.ownBlock ≠ some g := by
  rcases h.2 with ⟨rfl, _⟩ | ⟨g', cap, cur, rfl, _, hh, _⟩
  · simp [Value.ownBlock]
  · intro he
    have : g' = g := by simpa [Value.ownBlock] using he
    subst this
    unfold Blk at hg
    rw [hg] at hh
    injection hh with hh
    injection hh with _ ht
    exact hne ht.symm
theorem blk_grown {w w' : World} {g : Nat} {t : TypeId} {cs : Array Value} {row : Option Nat} (h : Blk w g t cs) (hg : w.grownBy w' row) (hne : row ≠ some g) : Blk w' g t cs := (hg.block g h.lt (Ne.symm hne)).trans h
theorem below_grown {B : Nat} {a w w' : World} {row : Option Nat} (h : Below B a w) (hg : w.grownBy w' row) (hB : B ≤ w.heap.size) (hr : ∀ k, row = some k → B ≤ k) : Below B a w' := h.grown hg hB hr
theorem own_grown {w w' : World} {base : Nat} {e : TypeId} {size n : Nat} {v : Value} {xs : List Value} {row : Option Nat} (h : w.ownsRow base e size v n xs) (hg : w.grownBy w' row) (hne : v.ownBlock ≠ row) : w'.ownsRow base e size v n xs := h.kept hg (.inr hne)
end Go.Proofs.Ytiggefmckomilaa
namespace Go.Proofs.Ytiggefmckomilaa
open Go Go.RowKit
/-- The world at a call, under a name. -/
theorem at_world {P : Program} {f : FuncId} {args : Array Value} {w : World} {R : Ending → World → Prop} (h : ∀ W, W = w → Calls P f args W R) : Calls P f args w R := h w rfl
theorem code_world {P : Program} {c : Code} {Q : Exit → Act → World → Prop} {a : Act} {w : World} (h : ∀ W, W = w → c.wp P Q a W) : c.wp P Q a w := h w rfl
theorem own_form {w : World} {base : Nat} {e : TypeId} {size n : Nat} {v : Value} {xs : List Value} (h : w.ownsRow base e size v n xs) (hn : 0 < n) : ∃ g cap, v = .slice (some ⟨g, 0, none⟩) n cap := by
  rcases h.2 with ⟨_, h0⟩ | ⟨g, cap, _, hv, _⟩
  · omega
  · exact ⟨g, cap, hv⟩
section
variable {P : Program} {md : Region.Mode} {ops : Array Oper} {S : Nat → Prop} {E : Nat → Bool}

/-- The one operation that can come up lays a new block. -/
theorem anyR_new {Q : Act → World → Prop} {f n : Nat} {listed : Array Bool} {a : Act} {w : World} (i : Nat) (after : Array Bool) (hr : Region.ready md ops listed = [i]) (he : (listed.setIfInBounds i true == after) = true) (hn : n = f + 1)
    {oi : Oper} (h : ops[i]? = some oi) {p : Tmp} (hd : oi.dst = some p) (hw : Region.wanted oi (yielded ops a.tmps) = true) (t : TypeId) (cells : Array Value) (v : Nat → Value)
    (hrun : ∀ w, (execOp a.eval oi).run P w = .ok (.value (v w.heap.size)) (w.alloc (.cells cells t))) (hS : ∀ k, S k → k < w.heap.size)
    (hK : ∀ w1, Later w w1 → anyR P md ops S E Q f after (a.put (some p) (v w1.heap.size)) (w1.alloc (.cells cells t))) : anyR P md ops S E Q n listed a w := by
  subst hn
  refine anyR_one i after hr he fun w1 l1 => ?_
  unfold opR
  simp only [h, hw, if_true, hrun, uponR]
  exact ⟨fun _ => kept_alloc _ (fun k hk => Nat.lt_of_lt_of_le (hS k hk) l1.size), by rw [hd]; exact hK w1 l1⟩

/-- The one operation that can come up is a call that leaves old memory alone. -/
theorem anyR_call {Q : Act → World → Prop} {f n : Nat} {listed : Array Bool} {a : Act} {w : World} (i : Nat) (after : Array Bool) (hr : Region.ready md ops listed = [i]) (he : (listed.setIfInBounds i true == after) = true) (hn : n = f + 1)
    {oi : Oper} (h : ops[i]? = some oi) {p : Tmp} (hd : oi.dst = some p) (hw : Region.wanted oi (yielded ops a.tmps) = true) (g : FuncId) (args : Array Value)
    (hrun : ∀ w, (execOp a.eval oi).run P w = .ok (.enter g args) w) (hS : ∀ k, S k → k < w.heap.size) (R : Value → World → World → Prop)
    (hc : ∀ w1, Later w w1 → Calls P g args w1 fun e w2 => ∃ v, e = .returned v ∧ Below w1.heap.size w1 w2 ∧ R v w1 w2)
    (hK : ∀ v w1 w2, Later w w1 → Later w w2 → R v w1 w2 → anyR P md ops S E Q f after (a.put (some p) v) w2) : anyR P md ops S E Q n listed a w := by
  subst hn
  refine anyR_one i after hr he fun w1 l1 => ?_
  unfold opR
  simp only [h, hw, if_true, hrun, uponR]
  refine (hc w1 l1).mono ?_
  rintro e w2 ⟨v, rfl, hb, hR⟩
  exact ⟨v, rfl, fun _ => Kept.of_later (fun k hk => Nat.lt_of_lt_of_le (hS k hk) l1.size) hb, by rw [hd]; exact hK v w1 w2 l1 (l1.trans hb) hR⟩

/-- More blocks are kept: for what is still to come. -/
theorem anyR_sub {S' : Nat → Prop} {Q : Act → World → Prop} (hs : ∀ k, S k → S' k) : ∀ {f : Nat} {listed : Array Bool} {a : Act} {w : World}, anyR P md ops S' E Q f listed a w → anyR P md ops S E Q f listed a w
  | 0, _, _, _, h => h
  | f + 1, listed, a, w, h => ⟨h.1, fun i hi w1 l1 => by
    have hh := h.2 i hi w1 l1
    have kk : ∀ w', Kept S' w1 w' → Kept S w1 w' := fun w' k => ⟨k.os, k.tape, k.output, k.size, fun b hb => k.block b (hs b hb)⟩
    unfold opR at *
    split
    · rename_i ho; simp only [ho] at hh; exact anyR_sub hs hh
    · rename_i o ho
      simp only [ho] at hh
      split
      · rename_i hw
        simp only [hw, if_true] at hh
        generalize (execOp a.eval o).run P w1 = r at *
        cases r with
        | ok n w' =>
          cases n <;> simp only [uponR] at hh ⊢
          case value u => exact ⟨fun he => kk _ (hh.1 he), anyR_sub hs hh.2⟩
          case skip => exact ⟨fun he => kk _ (hh.1 he), anyR_sub hs hh.2⟩
          case enter f args => exact hh.mono fun e w'' ⟨v, he, hb, hk⟩ => ⟨v, he, fun h1 => kk _ (hb h1), anyR_sub hs hk⟩
        | halt x w' => simp only [uponR] at hh
      · rename_i hw; simp only [hw] at hh; exact anyR_sub hs hh⟩
end
end Go.Proofs.Ytiggefmckomilaa
