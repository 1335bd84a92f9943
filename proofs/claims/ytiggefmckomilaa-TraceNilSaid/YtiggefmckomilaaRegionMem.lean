/-
  What is left of a region behind its quiet operations: one or two new variables that are laid and filled, in whatever order.
-/
import Derived.Test.YtiggefmckomilaaRegion
import Derived.Test.YtiggefmckomilaaWords
import Derived.WalkKit
namespace Go.Proofs.Ytiggefmckomilaa
open Go Go.RowKit

section
variable {P : Program} {md : Region.Mode} {ops : Array Oper} {S : Nat → Prop} {E : Nat → Bool}

theorem exec_alloc {o : Oper} {t : TypeId} {z : Value} (h : o.op = .alloc t) (hz : (P.info? t).map (·.zero) = some (some z)) (e : Operand → Value) (w : World) :
    (execOp e o).run P w = .ok (.value (.pointer (some ⟨w.heap.size, 0, none⟩))) (w.alloc (.cells z.cells t)) := by
  cases hi : P.info? t with
  | none => simp [hi] at hz
  | some i =>
    have hz' : i.zero = some z := by simpa [hi] using hz
    simp [execOp, h, hi, hz', go_sem, typeInfo, zeroValue]

theorem exec_store {o : Oper} {t t' : TypeId} {p x : Operand} {g : Nat} {old cells : Array Value} (h : o.op = .store t p x) {e : Operand → Value} {w : World} (hp : e p = .pointer (some ⟨g, 0, none⟩)) (hx : e x = .agg cells)
    (hg : Blk w g t' old) (hi : (P.info? t).map (·.size) = some cells.size) (ho : old.size = cells.size) (h1 : cells.all (·.oneCell') = true) :
    (execOp e o).run P w = .ok .skip (w.setRow g cells) := by
  have := run_storeCells_from (P := P) g t' cells.toList 0 old w hg (by simp; omega) (fun v hv => (Array.all_eq_true_iff_forall_mem.1 h1) v (by simpa using hv))
  simp at this
  cases hq : P.info? t with
  | none => simp [hq] at hi
  | some i =>
    have hs : i.size = cells.size := by simpa [hq] using hi
    simp [execOp, h, hp, hx, go_sem, sizeOf, typeInfo, hq, hs, this]

theorem blk_setRow {w : World} {g : Nat} {t : TypeId} {old cs : Array Value} (h : Blk w g t old) : Blk (w.setRow g cs) g t cs := by
  unfold Blk at *
  simp [World.setRow, Array.getElem?_modify, h]
theorem blk_setRow_other {w : World} {g k : Nat} {t : TypeId} {old cs : Array Value} (h : Blk w k t old) (hne : k ≠ g) : Blk (w.setRow g cs) k t old := by
  unfold Blk at *
  simp [World.setRow, Array.getElem?_modify, Ne.symm hne, h]
theorem below_setRow {B : Nat} {w : World} {g : Nat} {cs : Array Value} (hB : B ≤ g) : Below B w (w.setRow g cs) :=
  ⟨rfl, rfl, rfl, by simp [World.setRow], fun k hk => by simp [World.setRow, Array.getElem?_modify]; intro e; omega⟩
theorem kept_setRow {w : World} {g : Nat} {cs : Array Value} (hg : ¬ S g) : Kept S w (w.setRow g cs) :=
  ⟨rfl, rfl, rfl, by simp [World.setRow], fun k hk => by simp [World.setRow, Array.getElem?_modify]; intro e; subst e; exact absurd hk hg⟩
theorem kept_alloc {w : World} (o : Obj) (hS : ∀ k, S k → k < w.heap.size) : Kept S w (w.alloc o) := Kept.of_below hS ((Below.refl _ _).alloc (Nat.le_refl _) _)
theorem blk_later {w w' : World} {g : Nat} {t : TypeId} {cs : Array Value} (h : Blk w g t cs) (hl : Later w w') : Blk w' g t cs := h.below hl h.lt
theorem size_setRow' (w : World) (g : Nat) (cs : Array Value) : (w.setRow g cs).heap.size = w.heap.size := by simp [World.setRow]

def isAlloc (o : Option Oper) (t : TypeId) (p : Tmp) : Bool := match o with
  | some ⟨some d, .alloc t', _, _, _, none⟩ => d == p && t' == t
  | _ => false
def isStore (o : Option Oper) (t : TypeId) (p x : Tmp) : Bool := match o with
  | some ⟨none, .store t' (.tmp p') (.tmp x'), _, _, _, none⟩ => p' == p && t' == t && x' == x
  | _ => false

theorem opR_alloc {i : Nat} {t : TypeId} {p : Tmp} {z : Value} (h : isAlloc ops[i]? t p = true) (hz : (P.info? t).map (·.zero) = some (some z)) {K : Act → World → Prop} {a : Act} {w : World} (hS : ∀ k, S k → k < w.heap.size)
    (hK : K (a.put (some p) (.pointer (some ⟨w.heap.size, 0, none⟩))) (w.alloc (.cells z.cells t))) : opR P ops S E i K a w := by
  unfold opR
  cases ho : ops[i]? with
  | none => rw [ho] at h; simp [isAlloc] at h
  | some o =>
    rw [ho] at h
    obtain ⟨dst, op, ty, pos, aft, gd⟩ := o
    cases dst with
    | none => simp [isAlloc] at h
    | some d => cases gd with
      | some x => cases op <;> simp [isAlloc] at h
      | none => cases op with
        | alloc t' =>
          simp [isAlloc] at h
          obtain ⟨rfl, rfl⟩ := h
          have e := exec_alloc (P := P) (o := ⟨some d, .alloc t', ty, pos, aft, none⟩) rfl hz a.eval w
          simp only [Region.wanted, if_true, e, uponR]
          exact ⟨fun _ => kept_alloc _ hS, hK⟩
        | _ => simp [isAlloc] at h

theorem opR_store {i : Nat} {t t' : TypeId} {p x : Tmp} {g : Nat} {old cells : Array Value} (h : isStore ops[i]? t p x = true) {K : Act → World → Prop} {a : Act} {w : World} (hp : a.tmps.getD p undef = .pointer (some ⟨g, 0, none⟩)) (hx : a.tmps.getD x undef = .agg cells)
    (hg : Blk w g t' old) (hi : (P.info? t).map (·.size) = some cells.size) (ho : old.size = cells.size) (h1 : cells.all (·.oneCell') = true) (hg' : E i = true → ¬ S g) (hK : K a (w.setRow g cells)) : opR P ops S E i K a w := by
  unfold opR
  cases ho' : ops[i]? with
  | none => rw [ho'] at h; simp [isStore] at h
  | some o =>
    rw [ho'] at h
    obtain ⟨dst, op, ty, pos, aft, gd⟩ := o
    cases dst with
    | some d => simp [isStore] at h
    | none => cases gd with
      | some x => cases op <;> simp [isStore] at h
      | none => cases op with
        | store t1 p1 x1 =>
          cases p1 with
          | tmp p1 => cases x1 with
            | tmp x1 =>
              simp [isStore] at h
              obtain ⟨⟨rfl, rfl⟩, rfl⟩ := h
              have := exec_store (P := P) (o := ⟨none, .store t1 (.tmp p1) (.tmp x1), ty, pos, aft, none⟩) rfl (e := a.eval) (w := w) hp hx hg hi ho h1
              simp only [Region.wanted, if_true, this, uponR]
              exact ⟨fun he => kept_setRow (hg' he), hK⟩
            | _ => simp [isStore] at h
          | _ => simp [isStore] at h
        | _ => simp [isStore] at h

theorem getD_put {a : Act} {p : Tmp} {v : Value} (hp : p < a.tmps.size) : (a.put (some p) v).tmps.getD p undef = v := by simp [Act.put, Array.getD, hp]
theorem getD_put_ne {a : Act} {p x : Tmp} {v : Value} (hx : p ≠ x) : (a.put (some p) v).tmps.getD x undef = a.tmps.getD x undef := by
  simp only [Act.put, Array.getD_eq_getD_getElem?, Array.getElem?_setIfInBounds, hx, if_false]
theorem size_put' {a : Act} {p : Tmp} {v : Value} : (a.put (some p) v).tmps.size = a.tmps.size := by simp [Act.put]

def rem1B (md : Region.Mode) (ops : Array Oper) (listed : Array Bool) (i k : Nat) (t : TypeId) (p x : Tmp) : Bool :=
  Region.ready md ops listed == [i] && Region.ready md ops (listed.setIfInBounds i true) == [k] && (Region.ready md ops ((listed.setIfInBounds i true).setIfInBounds k true)).isEmpty && isAlloc ops[i]? t p && isStore ops[k]? t p x && p != x

theorem below_later' {B : Nat} {a b c : World} (h : Below B a b) (k : Later b c) (hB : B ≤ a.heap.size) : Below B a c := h.trans (Below.mono k (Nat.le_trans hB h.size))

/-- One new variable is laid and filled. -/
theorem anyR_new1 {Q : Act → World → Prop} {f n : Nat} {listed : Array Bool} {a : Act} {w : World} (i k : Nat) (t : TypeId) (p x : Tmp) (z : Value) (cells : Array Value) (hb : rem1B md ops listed i k t p x = true) (hn : n = f + 2) (hz : (P.info? t).map (·.zero) = some (some z))
    (hi : (P.info? t).map (·.size) = some cells.size) (hzs : z.cells.size = cells.size) (hp : p < a.tmps.size) (hx : a.tmps.getD x undef = .agg cells) (h1 : cells.all (·.oneCell') = true) (hS : ∀ k, S k → k < w.heap.size)
    (h : ∀ g w', w.heap.size ≤ g → Below w.heap.size w w' → Blk w' g t cells → Q (a.put (some p) (.pointer (some ⟨g, 0, none⟩))) w') : anyR P md ops S E Q n listed a w := by
  subst hn
  simp only [rem1B, Bool.and_eq_true, beq_iff_eq, bne_iff_ne, List.isEmpty_iff] at hb
  obtain ⟨⟨⟨⟨⟨r1, r2⟩, r3⟩, ha⟩, hs⟩, hne⟩ := hb
  refine anyR_one i _ r1 (beq_self_eq_true _) fun w1 h1' => opR_alloc ha hz (fun k hk => Nat.lt_of_lt_of_le (hS k hk) h1'.size) ?_
  refine anyR_one k _ r2 (beq_self_eq_true _) fun w2 h2' => ?_
  have hbk := blk_later (Blk.new w1 t z.cells) h2'
  refine opR_store hs (getD_put hp) (by rw [getD_put_ne hne]; exact hx) hbk hi hzs h1 (fun _ hk => absurd (hS _ hk) (by have := h1'.size; omega)) ?_
  refine anyR_done r3 fun w3 h3 => h _ _ h1'.size ?_ (blk_later (blk_setRow hbk) h3)
  have b2 : Below w.heap.size w (w1.alloc (.cells z.cells t)) := Below.alloc h1' h1'.size _
  have b3 := below_later' b2 h2' (Nat.le_refl _)
  have b4 := b3.trans (below_setRow (B := w.heap.size) (w := w2) (g := w1.heap.size) (cs := cells) h1'.size)
  exact below_later' b4 h3 (Nat.le_refl _)

def rem2B (md : Region.Mode) (ops : Array Oper) (l0 : Array Bool) (i j k m : Nat) (t t' : TypeId) (p q x y : Tmp) : Bool :=
  Region.ready md ops l0 == [i, j] && Region.ready md ops (l0.setIfInBounds i true) == [j, k] && Region.ready md ops (l0.setIfInBounds j true) == [i, m] &&
  Region.ready md ops ((l0.setIfInBounds i true).setIfInBounds j true) == [k, m] && Region.ready md ops ((l0.setIfInBounds i true).setIfInBounds k true) == [j] && Region.ready md ops ((l0.setIfInBounds j true).setIfInBounds m true) == [i] &&
  Region.ready md ops (((l0.setIfInBounds i true).setIfInBounds j true).setIfInBounds k true) == [m] && Region.ready md ops (((l0.setIfInBounds i true).setIfInBounds j true).setIfInBounds m true) == [k] &&
  (Region.ready md ops ((((l0.setIfInBounds i true).setIfInBounds j true).setIfInBounds k true).setIfInBounds m true)).isEmpty &&
  isAlloc ops[i]? t p && isAlloc ops[j]? t' q && isStore ops[k]? t p x && isStore ops[m]? t' q y && p != x && p != y && q != x && q != y && p != q && i != j && i != k && i != m && j != k && j != m && k != m

def rem2P (md : Region.Mode) (ops : Array Oper) (l0 : Array Bool) (i j k m : Nat) (t t' : TypeId) (p q x y : Tmp) : Bool :=
  Region.ready md ops l0 == [i, j] && Region.ready md ops (l0.setIfInBounds i true) == [j] && Region.ready md ops (l0.setIfInBounds j true) == [i] &&
  Region.ready md ops ((l0.setIfInBounds i true).setIfInBounds j true) == [k] && Region.ready md ops (((l0.setIfInBounds i true).setIfInBounds j true).setIfInBounds k true) == [m] &&
  (Region.ready md ops ((((l0.setIfInBounds i true).setIfInBounds j true).setIfInBounds k true).setIfInBounds m true)).isEmpty &&
  isAlloc ops[i]? t p && isAlloc ops[j]? t' q && isStore ops[k]? t p x && isStore ops[m]? t' q y && p != x && p != y && q != x && q != y && p != q && i != j

theorem set_comm (l : Array Bool) {i j : Nat} (h : i ≠ j) : (l.setIfInBounds i true).setIfInBounds j true = (l.setIfInBounds j true).setIfInBounds i true := Array.setIfInBounds_comm _ _ h

theorem anyR_two {Q : Act → World → Prop} {f : Nat} {listed : Array Bool} {a : Act} {w : World} {i j : Nat} (hr : Region.ready md ops listed = [i, j])
    (h : ∀ w1, Later w w1 → opR P ops S E i (anyR P md ops S E Q f (listed.setIfInBounds i true)) a w1) (h' : ∀ w1, Later w w1 → opR P ops S E j (anyR P md ops S E Q f (listed.setIfInBounds j true)) a w1) : anyR P md ops S E Q (f + 1) listed a w := by
  refine ⟨fun h0 => ?_, fun k hk => ?_⟩
  · rw [hr] at h0; cases h0
  · rw [hr] at hk
    rcases List.mem_cons.1 hk with rfl | hk
    · exact h
    · have : k = j := by simpa using hk
      subst this; exact h'

theorem put_put (a : Act) {p q : Tmp} (h : p ≠ q) (u v : Value) : (a.put (some p) u).put (some q) v = (a.put (some q) v).put (some p) u := Act.put_comm a u v (by intro d hd e; exact h (Option.some.inj (hd.trans e.symm)))

/-- Two new variables are laid and filled, in whatever order. -/
theorem anyR_new2 {Q : Act → World → Prop} {f n : Nat} {l0 : Array Bool} {a : Act} {w : World} (i j k m : Nat) (t t' : TypeId) (p q x y : Tmp) (z z' : Value) (cs cs' : Array Value) (hb : rem2B md ops l0 i j k m t t' p q x y = true) (hn : n = f + 4)
    (hz : (P.info? t).map (·.zero) = some (some z)) (hi : (P.info? t).map (·.size) = some cs.size) (hzs : z.cells.size = cs.size) (hz' : (P.info? t').map (·.zero) = some (some z')) (hi' : (P.info? t').map (·.size) = some cs'.size) (hzs' : z'.cells.size = cs'.size)
    (hp : p < a.tmps.size) (hq : q < a.tmps.size) (hx : a.tmps.getD x undef = .agg cs) (hy : a.tmps.getD y undef = .agg cs') (h1 : cs.all (·.oneCell') = true) (h1' : cs'.all (·.oneCell') = true) (hS : ∀ k, S k → k < w.heap.size)
    (h : ∀ g g' w', w.heap.size ≤ g → w.heap.size ≤ g' → g ≠ g' → Below w.heap.size w w' → Blk w' g t cs → Blk w' g' t' cs' → Q ((a.put (some p) (.pointer (some ⟨g, 0, none⟩))).put (some q) (.pointer (some ⟨g', 0, none⟩))) w') : anyR P md ops S E Q n l0 a w := by
  subst hn
  simp only [rem2B, Bool.and_eq_true, beq_iff_eq, bne_iff_ne, List.isEmpty_iff] at hb
  have hB : w.heap.size ≤ w.heap.size := Nat.le_refl _
  have nS : ∀ g, w.heap.size ≤ g → ¬ S g := fun g hg hs => absurd (hS g hs) (by omega)
  have upS : ∀ w' : World, w.heap.size ≤ w'.heap.size → ∀ k, S k → k < w'.heap.size := fun w' hw k hk => Nat.lt_of_lt_of_le (hS k hk) hw
  obtain ⟨⟨⟨⟨⟨⟨⟨⟨⟨⟨⟨⟨⟨⟨⟨⟨⟨⟨⟨⟨⟨⟨⟨r0, ri⟩, rj⟩, rij⟩, rik⟩, rjm⟩, rijk⟩, rijm⟩, rall⟩, hai⟩, haj⟩, hsk⟩, hsm⟩, px⟩, py⟩, qx⟩, qy⟩, pq⟩, nij⟩, nik⟩, nim⟩, njk⟩, njm⟩, nkm⟩ := hb
  have eqs : ∀ u v : Value, (a.put (some q) v).put (some p) u = (a.put (some p) u).put (some q) v := fun u v => (put_put a pq u v).symm
  -- both filled: the end
  have fin : ∀ (g g' : Nat) (l : Array Bool) (w' : World), l = (((l0.setIfInBounds i true).setIfInBounds j true).setIfInBounds k true).setIfInBounds m true → w.heap.size ≤ g → w.heap.size ≤ g' → g ≠ g' → Below w.heap.size w w' → Blk w' g t cs → Blk w' g' t' cs' → ∀ f', anyR P md ops S E Q f' l ((a.put (some p) (.pointer (some ⟨g, 0, none⟩))).put (some q) (.pointer (some ⟨g', 0, none⟩))) w' :=
    fun g g' l w' hl hg hg' hne hb hc hc' f' => by
      subst hl
      exact anyR_done rall fun w3 h3 => h g g' w3 hg hg' hne (below_later' hb h3 hB) (blk_later hc h3) (blk_later hc' h3)
  -- both laid
  have both : ∀ (g g' : Nat) (l : Array Bool) (w' : World), l = (l0.setIfInBounds i true).setIfInBounds j true → w.heap.size ≤ g → w.heap.size ≤ g' → g ≠ g' → Below w.heap.size w w' → Blk w' g t z.cells → Blk w' g' t' z'.cells →
      anyR P md ops S E Q (f + 2) l ((a.put (some p) (.pointer (some ⟨g, 0, none⟩))).put (some q) (.pointer (some ⟨g', 0, none⟩))) w' := fun g g' l w' hl hg hg' hne hb hc hc' => by
    subst hl
    have vp : ((a.put (some p) (.pointer (some ⟨g, 0, none⟩))).put (some q) (.pointer (some ⟨g', 0, none⟩))).tmps.getD p undef = .pointer (some ⟨g, 0, none⟩) := by rw [getD_put_ne (Ne.symm pq), getD_put hp]
    have vq : ((a.put (some p) (.pointer (some ⟨g, 0, none⟩))).put (some q) (.pointer (some ⟨g', 0, none⟩))).tmps.getD q undef = .pointer (some ⟨g', 0, none⟩) := getD_put (by rw [size_put']; exact hq)
    have vx : ((a.put (some p) (.pointer (some ⟨g, 0, none⟩))).put (some q) (.pointer (some ⟨g', 0, none⟩))).tmps.getD x undef = .agg cs := by rw [getD_put_ne qx, getD_put_ne px, hx]
    have vy : ((a.put (some p) (.pointer (some ⟨g, 0, none⟩))).put (some q) (.pointer (some ⟨g', 0, none⟩))).tmps.getD y undef = .agg cs' := by rw [getD_put_ne qy, getD_put_ne py, hy]
    refine anyR_two rij (fun w1 hl1 => opR_store hsk vp vx (blk_later hc hl1) hi hzs h1 (fun _ => nS _ (Nat.le_trans hB hg)) ?_) (fun w1 hl1 => opR_store hsm vq vy (blk_later hc' hl1) hi' hzs' h1' (fun _ => nS _ (Nat.le_trans hB hg')) ?_)
    · refine anyR_one m _ rijk (beq_self_eq_true _) fun w2 hl2 => opR_store hsm vq vy (blk_later (blk_setRow_other (blk_later hc' hl1) (Ne.symm hne)) hl2) hi' hzs' h1' (fun _ => nS _ (Nat.le_trans hB hg')) ?_
      exact fin g g' _ _ rfl hg hg' hne ((below_later' ((below_later' hb hl1 hB).trans (below_setRow (Nat.le_trans hB hg))) hl2 hB).trans (below_setRow (Nat.le_trans hB hg'))) (blk_setRow_other (blk_later (blk_setRow (blk_later hc hl1)) hl2) hne) (blk_setRow (blk_later (blk_setRow_other (blk_later hc' hl1) (Ne.symm hne)) hl2)) _
    · refine anyR_one k _ rijm (beq_self_eq_true _) fun w2 hl2 => opR_store hsk vp vx (blk_later (blk_setRow_other (blk_later hc hl1) hne) hl2) hi hzs h1 (fun _ => nS _ (Nat.le_trans hB hg)) ?_
      exact fin g g' _ _ (set_comm _ (Ne.symm nkm)) hg hg' hne ((below_later' ((below_later' hb hl1 hB).trans (below_setRow (Nat.le_trans hB hg'))) hl2 hB).trans (below_setRow (Nat.le_trans hB hg))) (blk_setRow (blk_later (blk_setRow_other (blk_later hc hl1) hne) hl2)) (blk_setRow_other (blk_later (blk_setRow (blk_later hc' hl1)) hl2) (Ne.symm hne)) _
  refine anyR_two r0 (fun w1 hl1 => opR_alloc hai hz (upS _ hl1.size) ?_) (fun w1 hl1 => opR_alloc haj hz' (upS _ hl1.size) ?_)
  · have b1 : Below w.heap.size w (w1.alloc (.cells z.cells t)) := Below.alloc (Below.mono hl1 hB) (Nat.le_trans hB hl1.size) _
    refine anyR_two ri (fun w2 hl2 => opR_alloc haj hz' (upS _ (by have := b1.size; have := hl2.size; omega)) ?_) (fun w2 hl2 => opR_store hsk (getD_put hp) (by rw [getD_put_ne px]; exact hx) (blk_later (Blk.new w1 t z.cells) hl2) hi hzs h1 (fun _ => nS _ (Nat.le_trans hB hl1.size)) ?_)
    · refine both w1.heap.size w2.heap.size _ _ rfl hl1.size (by have := b1.size; have := hl2.size; omega) (by have := hl2.size; simp at this; omega) ((below_later' b1 hl2 hB).alloc (by have := b1.size; have := hl2.size; omega) _) ((blk_later (Blk.new w1 t z.cells) hl2).alloc _) (Blk.new _ _ _)
    · refine anyR_one j _ rik (beq_self_eq_true _) fun w3 hl3 => opR_alloc haj hz' (upS _ (by have := b1.size; have := hl2.size; have := hl3.size; rw [size_setRow'] at this; omega)) ?_
      have hs3 := hl3.size
      rw [size_setRow'] at hs3
      have b3 := (below_later' ((below_later' b1 hl2 hB).trans (below_setRow (cs := cs) (Nat.le_trans hB hl1.size))) hl3 hB).alloc (o := .cells z'.cells t') (by have := b1.size; have := hl2.size; omega)
      have bk3 : Blk (w3.alloc (.cells z'.cells t')) w1.heap.size t cs := (blk_later (blk_setRow (blk_later (Blk.new w1 t z.cells) hl2)) hl3).alloc _
      have ne3 : w1.heap.size ≠ w3.heap.size := by have := hl2.size; simp at this; omega
      refine anyR_one m _ (by rw [show ((l0.setIfInBounds i true).setIfInBounds k true).setIfInBounds j true = ((l0.setIfInBounds i true).setIfInBounds j true).setIfInBounds k true from set_comm _ (Ne.symm njk)]; exact rijk) (beq_self_eq_true _) fun w4 hl4 => ?_
      refine opR_store hsm (getD_put (by rw [size_put']; exact hq)) (by rw [getD_put_ne qy, getD_put_ne py]; exact hy) (blk_later (Blk.new w3 t' z'.cells) hl4) hi' hzs' h1' (fun _ => nS _ (by have := b1.size; have := hl2.size; omega)) ?_
      exact fin w1.heap.size w3.heap.size _ _ (by rw [show ((l0.setIfInBounds i true).setIfInBounds k true).setIfInBounds j true = ((l0.setIfInBounds i true).setIfInBounds j true).setIfInBounds k true from set_comm _ (Ne.symm njk)]) hl1.size (by have := b1.size; have := hl2.size; omega) ne3
        ((below_later' b3 hl4 hB).trans (below_setRow (by have := b1.size; have := hl2.size; omega))) (blk_setRow_other (blk_later bk3 hl4) ne3) (blk_setRow (blk_later (Blk.new w3 t' z'.cells) hl4)) _
  · have b1 : Below w.heap.size w (w1.alloc (.cells z'.cells t')) := Below.alloc (Below.mono hl1 hB) (Nat.le_trans hB hl1.size) _
    refine anyR_two rj (fun w2 hl2 => opR_alloc hai hz (upS _ (by have := b1.size; have := hl2.size; omega)) ?_) (fun w2 hl2 => opR_store hsm (getD_put hq) (by rw [getD_put_ne qy]; exact hy) (blk_later (Blk.new w1 t' z'.cells) hl2) hi' hzs' h1' (fun _ => nS _ (Nat.le_trans hB hl1.size)) ?_)
    · rw [eqs]
      refine both w2.heap.size w1.heap.size _ _ (set_comm _ (Ne.symm nij)) (by have := b1.size; have := hl2.size; omega) hl1.size (by have := hl2.size; simp at this; omega) ((below_later' b1 hl2 hB).alloc (by have := b1.size; have := hl2.size; omega) _) (Blk.new _ _ _) ((blk_later (Blk.new w1 t' z'.cells) hl2).alloc _)
    · refine anyR_one i _ rjm (beq_self_eq_true _) fun w3 hl3 => opR_alloc hai hz (upS _ (by have := b1.size; have := hl2.size; have := hl3.size; rw [size_setRow'] at this; omega)) ?_
      have hs3 := hl3.size
      rw [size_setRow'] at hs3
      have b3 := (below_later' ((below_later' b1 hl2 hB).trans (below_setRow (cs := cs') (Nat.le_trans hB hl1.size))) hl3 hB).alloc (o := .cells z.cells t) (by have := b1.size; have := hl2.size; omega)
      have bk3 : Blk (w3.alloc (.cells z.cells t)) w1.heap.size t' cs' := (blk_later (blk_setRow (blk_later (Blk.new w1 t' z'.cells) hl2)) hl3).alloc _
      have ne3 : w3.heap.size ≠ w1.heap.size := by have := hl2.size; simp at this; omega
      have el : ((l0.setIfInBounds j true).setIfInBounds m true).setIfInBounds i true = ((l0.setIfInBounds i true).setIfInBounds j true).setIfInBounds m true := by rw [set_comm _ (Ne.symm nim), set_comm l0 (Ne.symm nij)]
      rw [eqs]
      refine anyR_one k _ (by rw [el]; exact rijm) (beq_self_eq_true _) fun w4 hl4 => ?_
      refine opR_store hsk (by rw [getD_put_ne (Ne.symm pq)]; exact getD_put hp) (by rw [getD_put_ne qx, getD_put_ne px]; exact hx) (blk_later (Blk.new w3 t z.cells) hl4) hi hzs h1 (fun _ => nS _ (by have := b1.size; have := hl2.size; omega)) ?_
      exact fin w3.heap.size w1.heap.size _ _ (by rw [el]; exact set_comm _ (Ne.symm nkm)) (by have := b1.size; have := hl2.size; omega) hl1.size ne3
        ((below_later' b3 hl4 hB).trans (below_setRow (by have := b1.size; have := hl2.size; omega))) (blk_setRow (blk_later (Blk.new w3 t z.cells) hl4)) (blk_setRow_other (blk_later bk3 hl4) (Ne.symm ne3)) _

/-- Two new variables are laid, in whatever order, and then filled one behind the other. -/
theorem anyR_pair {Q : Act → World → Prop} {f n : Nat} {l0 : Array Bool} {a : Act} {w : World} (i j k m : Nat) (t t' : TypeId) (p q x y : Tmp) (z z' : Value) (cs cs' : Array Value) (hb : rem2P md ops l0 i j k m t t' p q x y = true) (hn : n = f + 4)
    (hz : (P.info? t).map (·.zero) = some (some z)) (hi : (P.info? t).map (·.size) = some cs.size) (hzs : z.cells.size = cs.size) (hz' : (P.info? t').map (·.zero) = some (some z')) (hi' : (P.info? t').map (·.size) = some cs'.size) (hzs' : z'.cells.size = cs'.size)
    (hp : p < a.tmps.size) (hq : q < a.tmps.size) (hx : a.tmps.getD x undef = .agg cs) (hy : a.tmps.getD y undef = .agg cs') (h1 : cs.all (·.oneCell') = true) (h1' : cs'.all (·.oneCell') = true) (hS : ∀ k, S k → k < w.heap.size)
    (h : ∀ g g' w', w.heap.size ≤ g → w.heap.size ≤ g' → g ≠ g' → Below w.heap.size w w' → Blk w' g t cs → Blk w' g' t' cs' → Q ((a.put (some p) (.pointer (some ⟨g, 0, none⟩))).put (some q) (.pointer (some ⟨g', 0, none⟩))) w') : anyR P md ops S E Q n l0 a w := by
  subst hn
  simp only [rem2P, Bool.and_eq_true, beq_iff_eq, bne_iff_ne, List.isEmpty_iff] at hb
  obtain ⟨⟨⟨⟨⟨⟨⟨⟨⟨⟨⟨⟨⟨⟨⟨r0, ri⟩, rj⟩, rij⟩, rijk⟩, rall⟩, hai⟩, haj⟩, hsk⟩, hsm⟩, px⟩, py⟩, qx⟩, qy⟩, pq⟩, nij⟩ := hb
  have hB : w.heap.size ≤ w.heap.size := Nat.le_refl _
  have nS : ∀ g, w.heap.size ≤ g → ¬ S g := fun g hg hs => absurd (hS g hs) (by omega)
  have upS : ∀ w' : World, w.heap.size ≤ w'.heap.size → ∀ k, S k → k < w'.heap.size := fun w' hw k hk => Nat.lt_of_lt_of_le (hS k hk) hw
  have eqs : ∀ u v : Value, (a.put (some q) v).put (some p) u = (a.put (some p) u).put (some q) v := fun u v => (put_put a pq u v).symm
  have both : ∀ (g g' : Nat) (l : Array Bool) (w' : World), l = (l0.setIfInBounds i true).setIfInBounds j true → w.heap.size ≤ g → w.heap.size ≤ g' → g ≠ g' → Below w.heap.size w w' → Blk w' g t z.cells → Blk w' g' t' z'.cells →
      anyR P md ops S E Q (f + 2) l ((a.put (some p) (.pointer (some ⟨g, 0, none⟩))).put (some q) (.pointer (some ⟨g', 0, none⟩))) w' := fun g g' l w' hl hg hg' hne hb hc hc' => by
    subst hl
    have vp : ((a.put (some p) (.pointer (some ⟨g, 0, none⟩))).put (some q) (.pointer (some ⟨g', 0, none⟩))).tmps.getD p undef = .pointer (some ⟨g, 0, none⟩) := by rw [getD_put_ne (Ne.symm pq), getD_put hp]
    have vq : ((a.put (some p) (.pointer (some ⟨g, 0, none⟩))).put (some q) (.pointer (some ⟨g', 0, none⟩))).tmps.getD q undef = .pointer (some ⟨g', 0, none⟩) := getD_put (by rw [size_put']; exact hq)
    have vx : ((a.put (some p) (.pointer (some ⟨g, 0, none⟩))).put (some q) (.pointer (some ⟨g', 0, none⟩))).tmps.getD x undef = .agg cs := by rw [getD_put_ne qx, getD_put_ne px, hx]
    have vy : ((a.put (some p) (.pointer (some ⟨g, 0, none⟩))).put (some q) (.pointer (some ⟨g', 0, none⟩))).tmps.getD y undef = .agg cs' := by rw [getD_put_ne qy, getD_put_ne py, hy]
    refine anyR_one k _ rij (beq_self_eq_true _) fun w1 hl1 => opR_store hsk vp vx (blk_later hc hl1) hi hzs h1 (fun _ => nS _ hg) ?_
    refine anyR_one m _ rijk (beq_self_eq_true _) fun w2 hl2 => opR_store hsm vq vy (blk_later (blk_setRow_other (blk_later hc' hl1) (Ne.symm hne)) hl2) hi' hzs' h1' (fun _ => nS _ hg') ?_
    exact anyR_done rall fun w3 h3 => h g g' w3 hg hg' hne (below_later' ((below_later' ((below_later' hb hl1 hB).trans (below_setRow hg)) hl2 hB).trans (below_setRow hg')) h3 hB)
      (blk_later (blk_setRow_other (blk_later (blk_setRow (blk_later hc hl1)) hl2) hne) h3) (blk_later (blk_setRow (blk_later (blk_setRow_other (blk_later hc' hl1) (Ne.symm hne)) hl2)) h3)
  refine anyR_two r0 (fun w1 hl1 => opR_alloc hai hz (upS _ hl1.size) ?_) (fun w1 hl1 => opR_alloc haj hz' (upS _ hl1.size) ?_)
  · have b1 : Below w.heap.size w (w1.alloc (.cells z.cells t)) := Below.alloc hl1 hl1.size _
    refine anyR_one j _ ri (beq_self_eq_true _) fun w2 hl2 => opR_alloc haj hz' (upS _ (by have := b1.size; have := hl2.size; omega)) ?_
    exact both w1.heap.size w2.heap.size _ _ rfl hl1.size (by have := b1.size; have := hl2.size; omega) (by have := hl2.size; simp at this; omega) ((below_later' b1 hl2 hB).alloc (by have := b1.size; have := hl2.size; omega) _) ((blk_later (Blk.new w1 t z.cells) hl2).alloc _) (Blk.new _ _ _)
  · have b1 : Below w.heap.size w (w1.alloc (.cells z'.cells t')) := Below.alloc hl1 hl1.size _
    refine anyR_one i _ rj (beq_self_eq_true _) fun w2 hl2 => opR_alloc hai hz (upS _ (by have := b1.size; have := hl2.size; omega)) ?_
    rw [eqs]
    exact both w2.heap.size w1.heap.size _ _ (set_comm _ (Ne.symm nij)) (by have := b1.size; have := hl2.size; omega) hl1.size (by have := hl2.size; simp at this; omega) ((below_later' b1 hl2 hB).alloc (by have := b1.size; have := hl2.size; omega) _) (Blk.new _ _ _) ((blk_later (Blk.new w1 t' z'.cells) hl2).alloc _)

def rem0B (md : Region.Mode) (ops : Array Oper) (listed : Array Bool) (i : Nat) (t : TypeId) (p x : Tmp) : Bool :=
  Region.ready md ops listed == [i] && (Region.ready md ops (listed.setIfInBounds i true)).isEmpty && isStore ops[i]? t p x
theorem grown_later {a b c : World} {row : Option Nat} (h : Later a b) (k : b.grownBy c row) : a.grownBy c row :=
  ⟨k.os.trans h.os, k.tape.trans h.tape, k.output.trans h.output, Nat.le_trans h.size k.size, fun i hi hne => (k.block i (Nat.lt_of_lt_of_le hi h.size) hne).trans (h.block i hi)⟩
theorem later_grown {a b c : World} {row : Option Nat} (k : a.grownBy b row) (h : Later b c) : a.grownBy c row :=
  ⟨h.os.trans k.os, h.tape.trans k.tape, h.output.trans k.output, Nat.le_trans k.size h.size, fun i hi hne => (h.block i (Nat.lt_of_lt_of_le hi k.size)).trans (k.block i hi hne)⟩
theorem grown_setRow (w : World) (g : Nat) (cs : Array Value) : w.grownBy (w.setRow g cs) (some g) :=
  ⟨rfl, rfl, rfl, by simp [World.setRow], fun k _ hne => by
    have : g ≠ k := fun e => hne (by rw [e])
    simp [World.setRow, Array.getElem?_modify, this]⟩

/-- One variable that is there is filled. -/
theorem anyR_fill {Q : Act → World → Prop} {f n : Nat} {listed : Array Bool} {a : Act} {w : World} (i : Nat) (t t' : TypeId) (p x : Tmp) (g : Nat) (old cells : Array Value) (hb : rem0B md ops listed i t p x = true) (hn : n = f + 1)
    (hp : a.tmps.getD p undef = .pointer (some ⟨g, 0, none⟩)) (hx : a.tmps.getD x undef = .agg cells) (hg : Blk w g t' old) (hi : (P.info? t).map (·.size) = some cells.size) (ho : old.size = cells.size) (h1 : cells.all (·.oneCell') = true) (hE : E i = true → ¬ S g)
    (h : ∀ w', w.grownBy w' (some g) → Blk w' g t' cells → Q a w') : anyR P md ops S E Q n listed a w := by
  subst hn
  simp only [rem0B, Bool.and_eq_true, beq_iff_eq, List.isEmpty_iff] at hb
  obtain ⟨⟨r1, r2⟩, hs⟩ := hb
  refine anyR_one i _ r1 (beq_self_eq_true _) fun w1 h1' => opR_store hs hp hx (blk_later hg h1') hi ho h1 hE ?_
  exact anyR_done r2 fun w2 h2 => h w2 (later_grown (grown_later h1' (grown_setRow w1 g cells)) h2) (blk_later (blk_setRow (blk_later hg h1')) h2)
theorem liftB {D : World → Prop} {B : Nat} {w : World} (hD : Good (fun k => k < B) w D) {b o : Nat} {v : Value} (h : w.cell? ⟨b, o, none⟩ = some v) (hb : b < B) (x : Of D) : x.val.cell? ⟨b, o, none⟩ = some v := lift hD h hb x
theorem Blk.c {w : World} {g : Nat} {t : TypeId} {cs : Array Value} (h : Blk w g t cs) (i : Nat) {v : Value} (hi : cs[i]? = some v) : w.cell? ⟨g, i, none⟩ = some v := (h.cell i).trans hi
end
theorem onward {a b c : World} (h : Below a.heap.size a b) (k : Below b.heap.size b c) : Below a.heap.size a c := below_later' h k (Nat.le_refl _)
theorem quiet_left {P : Program} {f : FuncId} {args : Array Value} {w : World} {n : Nat} {v : Value}
    (h : Calls P f args (w.drewN n) fun e w' => e = .returned v ∧ w.drewN n = w') : Calls P f args (w.drewN n) fun e w'' => e = .returned v ∧ ∃ m, w'' = w.drewN m :=
  h.mono fun _ _ ⟨he, hm⟩ => ⟨he, n, hm.symm⟩
theorem blk_new_at {w : World} {t : TypeId} {cs : Array Value} {g : Nat} (h : g = w.heap.size) : Blk (w.alloc (.cells cs t)) g t cs := by subst h; exact Blk.new _ _ _
theorem Blk.c2 {w : World} {g : Nat} {t : TypeId} {u v : Value} (h : Blk w g t #[u, v]) : w.cell? ⟨g, 0, none⟩ = some u ∧ w.cell? ⟨g, 1, none⟩ = some v := ⟨h.c 0 rfl, h.c 1 rfl⟩
theorem Blk.c3 {w : World} {g : Nat} {t : TypeId} {u v x : Value} (h : Blk w g t #[u, v, x]) : w.cell? ⟨g, 0, none⟩ = some u ∧ w.cell? ⟨g, 1, none⟩ = some v ∧ w.cell? ⟨g, 2, none⟩ = some x := ⟨h.c 0 rfl, h.c 1 rfl, h.c 2 rfl⟩
theorem Blk.c4 {w : World} {g : Nat} {t : TypeId} {u v x y : Value} (h : Blk w g t #[u, v, x, y]) : w.cell? ⟨g, 0, none⟩ = some u ∧ w.cell? ⟨g, 1, none⟩ = some v ∧ w.cell? ⟨g, 2, none⟩ = some x ∧ w.cell? ⟨g, 3, none⟩ = some y := ⟨h.c 0 rfl, h.c 1 rfl, h.c 2 rfl, h.c 3 rfl⟩
theorem one2 (a b : Int) : (#[.int .i64 a, .int .i64 b] : Array Value).all (·.oneCell') = true := by simp [Value.oneCell']
theorem one3 (a b c : Int) : (#[.int .i64 a, .int .i64 b, .int .i64 c] : Array Value).all (·.oneCell') = true := by simp [Value.oneCell']
theorem one4 (a b c d : Int) : (#[.int .i64 a, .int .i64 b, .int .i64 c, .int .i64 d] : Array Value).all (·.oneCell') = true := by simp [Value.oneCell']
end Go.Proofs.Ytiggefmckomilaa
