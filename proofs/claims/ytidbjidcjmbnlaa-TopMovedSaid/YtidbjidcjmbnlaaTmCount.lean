/-
  Words for memory that every text of this seat uses: a row of integer cells that a slice value reads as, a block that is known whole, and what is kept below a block number. Plain theorems over any program; nothing of the seat's own program is named.
  Rain that moves evenly: the truth of maps, one map on; plain words.
  Connected parts of pixels: what the program's search keeps; plain words.
  The neighbors of pixels of a grid; plain words.
  Elements that are joined, and the events that they make; plain words.
  Rain that moves evenly: areas, events, moves; plain words.
  Rain that moves evenly: where clouds can be, one map on; plain words.
  A loop's code, taken out of a function.
  The parts as lists; a search whose neighbors come in any order; plain words.
  Which areas have been joined, pixel by pixel; events as they lie in memory; plain words.
  The state of a pixel, out of the list of its sources; plain words.
  The sources of a pixel in the order in which they are yielded; plain words.
  As many areas, however they are found; plain words.
-/
import Derived.WalkKit
import Derived.WalkSpells
import Derived.WalkLawsBesides
import Derived.Deep.Draws
set_option linter.unusedSimpArgs false
set_option linter.unusedVariables false
section
namespace Go.Proofs.Ytidbjidcjmbnlaa
open Go.RowKit

/-- The slice value `.slice A n c` reads as `m` integer cells `zs`, all below block `B`. -/
def Ints (w : World) (B : Nat) (k : IntKind) (A : Option Addr) (zs : List Int) : Prop :=
  0 < zs.length → ∃ b off, A = some ⟨b, off, none⟩ ∧ b < B ∧ ∀ j, j < zs.length → w.cell? ⟨b, off + j, none⟩ = some (.int k (zs.getD j 0))

section
variable {w w' : World} {B B' : Nat} {k : IntKind} {A : Option Addr} {zs : List Int}
theorem Ints.nil_ (w : World) (B : Nat) (k : IntKind) (A : Option Addr) : Ints w B k A [] := fun h => absurd h (by simp)
theorem Ints.keep (h : Ints w B k A zs) (hk : ∀ b o, b < B → w'.cell? ⟨b, o, none⟩ = w.cell? ⟨b, o, none⟩) : Ints w' B k A zs := fun hn => by
  obtain ⟨b, off, e, hb, hc⟩ := h hn
  exact ⟨b, off, e, hb, fun j hj => (hk _ _ hb).trans (hc j hj)⟩
theorem Ints.more (h : Ints w B k A zs) (hB : B ≤ B') : Ints w B' k A zs := fun hn => by
  obtain ⟨b, off, e, hb, hc⟩ := h hn
  exact ⟨b, off, e, by omega, hc⟩
theorem Ints.below (h : Ints w B k A zs) (hb : Below B w w') : Ints w' B k A zs := h.keep fun _ _ hp => hb.cell hp
theorem Ints.own {base : Nat} {e : TypeId} {size n c : Nat} {xs : List Value} (h : w.ownsRow base e size (.slice A n c) n xs) (hx : xs = zs.map (Value.int k)) (hB : w.heap.size ≤ B) : Ints w B k A zs := fun hn => by
  subst hx
  rcases h.2 with ⟨_, h0⟩ | ⟨g, cap, cur, hv, _, hg, _⟩
  · have := h.1; rw [h0] at this; simp at this; subst this; simp at hn
  have hA : A = some ⟨g, 0, none⟩ := by injection hv
  subst hA
  refine ⟨g, 0, rfl, ?_, fun j hj => ?_⟩
  · rcases Nat.lt_or_ge g w.heap.size with hlt | hge
    · omega
    · rw [Array.getElem?_eq_none hge] at hg; cases hg
  have := h.cells (g := g) rfl j (.int k (zs.getD j 0)) (by simp [List.getD, hj])
  by_cases h0 : j = 0
  · subst h0; simpa [Addr.add] using this
  · simpa [Addr.add, h0] using this
end

/-- A block that is known whole. -/
def Blk (w : World) (g : Nat) (t : TypeId) (cs : Array Value) : Prop := w.heap[g]? = some (.cells cs t (0, 0))
section
variable {w w' : World} {g : Nat} {t : TypeId} {cs : Array Value}
theorem Blk.lt (h : Blk w g t cs) : g < w.heap.size := by
  rcases Nat.lt_or_ge g w.heap.size with hlt | hge
  · exact hlt
  · unfold Blk at h; rw [Array.getElem?_eq_none hge] at h; cases h
theorem Blk.cell (h : Blk w g t cs) (i : Nat) : w.cell? ⟨g, i, none⟩ = cs[i]? := cell_of_row w g i cs t (0, 0) h
theorem Blk.frozen (h : Blk w g t cs) (i : Nat) : w.frozen? ⟨g, i, none⟩ = false := by
  unfold Blk at h
  simp [World.frozen?, h]
theorem Blk.new (w : World) (t : TypeId) (cs : Array Value) : Blk (w.alloc (.cells cs t)) w.heap.size t cs := heap_alloc_new w _
theorem Blk.alloc (h : Blk w g t cs) (o : Obj) : Blk (w.alloc o) g t cs := (Below.heap_alloc w o g h.lt).trans h
theorem Blk.set_ (h : Blk w g t cs) (i : Nat) (u : Value) : Blk (w.setCell ⟨g, i, none⟩ u) g t (cs.setIfInBounds i u) := by
  unfold Blk at h ⊢
  simp [World.setCell, Array.getElem?_modify, h]
theorem Blk.far (h : Blk w g t cs) {p : Addr} (hp : g ≠ p.block) (u : Value) : Blk (w.setCell p u) g t cs := (Below.heap_setCell w p u g hp).trans h
theorem Blk.below {B : Nat} (h : Blk w g t cs) (hb : Below B w w') (hg : g < B) : Blk w' g t cs := (hb.block g hg).trans h
end

theorem below_drewN {B : Nat} {a w : World} (h : Below B a w) (n : Nat) : Below B a (w.drewN n) := ⟨h.os, h.tape, h.output, h.size, h.block⟩
theorem hide {p : Prop} (h : p) : Hid p := h
theorem ret_int {k : IntKind} {a b : Int} (h : a = b) : Ending.returned (.int k a) = .returned (.int k b) := by rw [h]
end Go.Proofs.Ytidbjidcjmbnlaa
end
section
namespace Go.Proofs.Ytidbjidcjmbnlaa

/-- Rain in truth: a grid, a move, and what is in at first. -/
structure Mvd where
  W : Nat
  H : Nat
  mx : Int
  my : Int
  inn : Nat → Bool
def gridB (M : Mvd) (x y : Int) : Bool := decide (0 ≤ x ∧ x < M.W ∧ 0 ≤ y ∧ y < M.H)
/-- Whether a place is in, in the map n. -/
def truXY (M : Mvd) (n : Nat) (x y : Int) : Bool := gridB M (x - n * M.mx) (y - n * M.my) && M.inn ((y - n * M.my) * M.W + (x - n * M.mx)).toNat
/-- Whether a pixel is. -/
def truP (M : Mvd) (n p : Nat) : Bool := truXY M n ((p % M.W : Nat) : Int) ((p / M.W : Nat) : Int)
theorem gridB_iff {M : Mvd} {x y : Int} : gridB M x y = true ↔ 0 ≤ x ∧ x < M.W ∧ 0 ≤ y ∧ y < M.H := by unfold gridB; exact decide_eq_true_iff
/-- What comes from one map to the next one. -/
theorem tru_step (M : Mvd) (n : Nat) (x y : Int) : truXY M (n + 1) (x + M.mx) (y + M.my) = truXY M n x y := by
  unfold truXY
  rw [show x + M.mx - ((n + 1 : Nat) : Int) * M.mx = x - n * M.mx by push_cast; grind, show y + M.my - ((n + 1 : Nat) : Int) * M.my = y - n * M.my by push_cast; grind]
theorem tru_back (M : Mvd) (n : Nat) (x y : Int) : truXY M (n + 1) x y = truXY M n (x - M.mx) (y - M.my) := by
  rw [← tru_step M n (x - M.mx) (y - M.my), Int.sub_add_cancel, Int.sub_add_cancel]
/-- Between two numbers of a row. -/
theorem between {m x w : Int} {n : Nat} (h0 : 0 ≤ x) (h1 : x < w) (h2 : 0 ≤ x - (n + 1 : Nat) * m) (h3 : x - (n + 1 : Nat) * m < w) : 0 ≤ x - m ∧ x - m < w := by
  push_cast at h2 h3
  have e : (↑n + 1) * m = n * m + m := by grind
  rw [e] at h2 h3
  by_cases c : 0 ≤ m
  · have : 0 ≤ (n : Int) * m := Int.mul_nonneg (by omega) c
    omega
  · have : (n : Int) * m ≤ 0 := Int.mul_nonpos_of_nonneg_of_nonpos (by omega) (by omega)
    omega
/-- What is true in a map, in the grid, came from a place of the grid. -/
theorem tru_from {M : Mvd} {n : Nat} {x y : Int} (hg : gridB M x y = true) (h : truXY M (n + 1) x y = true) : gridB M (x - M.mx) (y - M.my) = true ∧ truXY M n (x - M.mx) (y - M.my) = true := by
  refine ⟨?_, by rw [← tru_back]; exact h⟩
  unfold truXY at h
  rw [Bool.and_eq_true, gridB_iff] at h
  rw [gridB_iff] at hg ⊢
  obtain ⟨a, b⟩ := between hg.1 hg.2.1 h.1.1 h.1.2.1
  obtain ⟨c, d⟩ := between hg.2.2.1 hg.2.2.2 h.1.2.2.1 h.1.2.2.2
  exact ⟨a, b, c, d⟩
/-- Pixels and places. -/
theorem pix_grid {M : Mvd} {p : Nat} (h : p < M.W * M.H) : gridB M ((p % M.W : Nat) : Int) ((p / M.W : Nat) : Int) = true := by
  have hw : 0 < M.W := Nat.pos_of_ne_zero fun e => by rw [e, Nat.zero_mul] at h; omega
  have h1 := Nat.mod_lt p hw
  have h2 : p / M.W < M.H := Nat.div_lt_of_lt_mul h
  rw [gridB_iff]
  exact ⟨Int.natCast_nonneg _, Int.ofNat_lt.2 h1, Int.natCast_nonneg _, Int.ofNat_lt.2 h2⟩
theorem pix_of {M : Mvd} {x y : Int} (h : gridB M x y = true) : ∃ q : Nat, (q : Int) = y * M.W + x ∧ q < M.W * M.H ∧ ((q % M.W : Nat) : Int) = x ∧ ((q / M.W : Nat) : Int) = y := by
  rw [gridB_iff] at h
  obtain ⟨x', rfl⟩ : ∃ n : Nat, (n : Int) = x := ⟨x.toNat, by omega⟩
  obtain ⟨y', rfl⟩ : ∃ n : Nat, (n : Int) = y := ⟨y.toNat, by omega⟩
  have hx : x' < M.W := by omega
  have hy : y' < M.H := by omega
  refine ⟨y' * M.W + x', by push_cast; rfl, ?_, ?_, ?_⟩
  · have : (y' + 1) * M.W ≤ M.H * M.W := Nat.mul_le_mul_right _ hy
    rw [Nat.mul_comm M.W M.H]
    rw [Nat.add_mul] at this
    omega
  · congr 1
    rw [Nat.add_comm, Nat.add_mul_mod_self_right, Nat.mod_eq_of_lt hx]
  · congr 1
    rw [Nat.add_comm, Nat.add_mul_div_right _ _ (by omega), Nat.div_eq_of_lt hx, Nat.zero_add]
end Go.Proofs.Ytidbjidcjmbnlaa
end
section
namespace Go.Proofs.Ytidbjidcjmbnlaa

def updF (f : Nat → Int) (p : Nat) (v : Int) : Nat → Int := fun q => if q = p then v else f q
theorem updF_at (f : Nat → Int) (p : Nat) (v : Int) : updF f p v p = v := if_pos rfl
theorem updF_ne {f : Nat → Int} {p q : Nat} {v : Int} (h : q ≠ p) : updF f p v q = f q := if_neg h
/-- A number for each pixel that is the same for neighbors that are wanted. -/
def GoodH (N : Nat) (nb : Nat → List Nat) (wants : Nat → Bool) (h : Nat → Int) : Prop := ∀ p q, p < N → q ∈ nb p → wants p = true → wants q = true → h p = h q
structure NbOk (N : Nat) (nb : Nat → List Nat) : Prop where
  lt : ∀ p q, p < N → q ∈ nb p → q < N
  sym : ∀ p q, p < N → q ∈ nb p → p ∈ nb q
/-- So many parts are whole. -/
structure PartI (N : Nat) (nb : Nat → List Nat) (wants : Nat → Bool) (K : Nat) (f : Nat → Int) : Prop where
  lab : ∀ p, p < N → f p = -1 ∨ (0 ≤ f p ∧ f p < K ∧ wants p = true)
  closed : ∀ p q, p < N → 0 ≤ f p → q ∈ nb p → wants q = true → f q = f p
  conn : ∀ h, GoodH N nb wants h → ∀ p q, p < N → q < N → 0 ≤ f p → f p = f q → h p = h q
/-- A part is being searched: the list of what was found; i of it are done, and m neighbors of the next one. -/
structure BfsI (N : Nat) (nb : Nat → List Nat) (wants : Nat → Bool) (K : Nat) (f : Nat → Int) (l : List Nat) (i m : Nat) : Prop where
  lab : ∀ p, p < N → f p = -1 ∨ (0 ≤ f p ∧ f p ≤ K ∧ wants p = true)
  mem : ∀ p, p ∈ l ↔ p < N ∧ f p = K
  nd : l.Nodup
  ne : l ≠ []
  old : ∀ p q, p < N → 0 ≤ f p → f p < K → q ∈ nb p → wants q = true → f q = f p
  connO : ∀ h, GoodH N nb wants h → ∀ p q, p < N → q < N → 0 ≤ f p → f p < K → f p = f q → h p = h q
  conn : ∀ h, GoodH N nb wants h → ∀ p q, p ∈ l → q ∈ l → h p = h q
  done : ∀ j q, j < i → q ∈ nb (l.getD j 0) → wants q = true → 0 ≤ f q
  now : ∀ q, q ∈ (nb (l.getD i 0)).take m → wants q = true → 0 ≤ f q
section
variable {N : Nat} {nb : Nat → List Nat} {wants : Nat → Bool} {K : Nat} {f : Nat → Int} {l : List Nat} {i m : Nat}
theorem part_none : PartI N nb wants 0 (fun _ => -1) := ⟨fun _ _ => .inl rfl, fun p q _ h => absurd h (by omega), fun h _ p q _ _ h0 => absurd h0 (by omega)⟩
theorem bfs_start (h : PartI N nb wants K f) {p : Nat} (hp : p < N) (hf : f p < 0) (hw : wants p = true) : BfsI N nb wants K (updF f p K) [p] 0 0 := by
  have hne : ∀ q, 0 ≤ f q → q ≠ p := fun q h0 e => by subst e; omega
  refine ⟨fun q hq => ?_, fun q => ?_, by simp, by simp, fun a b ha h0 h1 hb hwb => ?_, fun g hg a b ha hb h0 h1 hab => ?_, fun g _ a b ha hb => ?_, fun j q hj => absurd hj (Nat.not_lt_zero _), fun q hq => by simp at hq⟩
  · by_cases e : q = p
    · subst e
      rw [updF_at]
      exact .inr ⟨by omega, Int.le_refl _, hw⟩
    · rw [updF_ne e]
      rcases h.lab q hq with h1 | ⟨h1, h2, h3⟩
      · exact .inl h1
      · exact .inr ⟨h1, by omega, h3⟩
  · rw [List.mem_singleton]
    constructor
    · rintro rfl
      exact ⟨hp, updF_at _ _ _⟩
    · rintro ⟨h1, h2⟩
      apply Classical.byContradiction
      intro e
      rw [updF_ne e] at h2
      rcases h.lab q h1 with h3 | ⟨-, h3, -⟩ <;> omega
  · have ea : a ≠ p := fun e => by subst e; rw [updF_at] at h1; omega
    rw [updF_ne ea] at h0 h1 ⊢
    have hc := h.closed a b ha h0 hb hwb
    rw [updF_ne (hne b (by omega)), hc]
  · have ea : a ≠ p := fun e => by subst e; rw [updF_at] at h1; omega
    rw [updF_ne ea] at h0 h1 hab
    have eb : b ≠ p := fun e => by subst e; rw [updF_at] at hab; omega
    rw [updF_ne eb] at hab
    exact h.conn g hg a b ha hb h0 hab
  · rw [List.mem_singleton.1 ha, List.mem_singleton.1 hb]
theorem getD_app {a : List Nat} {b : Nat} {j : Nat} (h : j < a.length) : (a ++ [b]).getD j 0 = a.getD j 0 := by
  rw [List.getD_eq_getElem?_getD, List.getElem?_append_left h, List.getD_eq_getElem?_getD]
theorem bfs_end (hn : NbOk N nb) (h : BfsI N nb wants K f l l.length m) : PartI N nb wants (K + 1) f := by
  refine ⟨fun p hp => ?_, fun p q hp h0 hq hw => ?_, fun g hg p q hp hq h0 hpq => ?_⟩
  · rcases h.lab p hp with h1 | ⟨h1, h2, h3⟩
    · exact .inl h1
    · exact .inr ⟨h1, by omega, h3⟩
  · rcases h.lab p hp with h1 | ⟨-, h2, h3⟩
    · omega
    · by_cases e : f p = K
      · have hpl := (h.mem p).2 ⟨hp, e⟩
        obtain ⟨j, hj, rfl⟩ := List.mem_iff_getElem.1 hpl
        have hd := h.done j q hj (by rw [List.getD_eq_getElem?_getD, List.getElem?_eq_getElem hj]; exact hq) hw
        rcases h.lab q (hn.lt _ _ hp hq) with h4 | ⟨-, h5, -⟩
        · omega
        · by_cases e2 : f q = K
          · rw [e2, e]
          · have := h.old q _ (hn.lt _ _ hp hq) hd (by omega) (hn.sym _ _ hp hq) h3
            omega
      · exact h.old p q hp h0 (by omega) hq hw
  · rcases h.lab p hp with h1 | ⟨-, h2, h3⟩
    · omega
    · by_cases e : f p = K
      · exact h.conn g hg p q ((h.mem p).2 ⟨hp, e⟩) ((h.mem q).2 ⟨hq, by omega⟩)
      · exact h.connO g hg p q hp hq h0 (by omega) hpq
theorem bfs_len (h : BfsI N nb wants K f l i m) : l.length ≤ N := by
  have h1 : ∀ x ∈ l, x < N := fun x hx => ((h.mem x).1 hx).1
  have h2 := List.Nodup.length_le_of_subset (l₁ := l) (l₂ := List.range N) h.nd (fun x hx => List.mem_range.2 (h1 x hx))
  simpa using h2
end
end Go.Proofs.Ytidbjidcjmbnlaa
end
section
namespace Go.Proofs.Ytidbjidcjmbnlaa

def nbL (W H p : Nat) : List Nat := (if 0 < p / W then [p - W] else []) ++ ((if 0 < p % W then [p - 1] else []) ++ ((if p % W + 1 < W then [p + 1] else []) ++ (if p / W + 1 < H then [p + W] else [])))
theorem pix_split {W H p : Nat} (h : p < W * H) : ∃ x y, p = y * W + x ∧ x < W ∧ y < H ∧ p % W = x ∧ p / W = y := by
  have hw : 0 < W := Nat.pos_of_ne_zero fun e => by rw [e, Nat.zero_mul] at h; omega
  refine ⟨p % W, p / W, ?_, Nat.mod_lt p hw, Nat.div_lt_of_lt_mul h, rfl, rfl⟩
  rw [Nat.mul_comm]
  exact (Nat.div_add_mod p W).symm
theorem pix_make {W H x y : Nat} (hx : x < W) (hy : y < H) : y * W + x < W * H ∧ (y * W + x) % W = x ∧ (y * W + x) / W = y := by
  refine ⟨?_, ?_, ?_⟩
  · have : (y + 1) * W ≤ H * W := Nat.mul_le_mul_right _ hy
    rw [Nat.mul_comm W H]
    rw [Nat.add_mul] at this
    omega
  · rw [Nat.add_comm, Nat.add_mul_mod_self_right, Nat.mod_eq_of_lt hx]
  · rw [Nat.add_comm, Nat.add_mul_div_right _ _ (by omega), Nat.div_eq_of_lt hx, Nat.zero_add]
/-- Neighbors, by columns and rows. -/
theorem nb_iff {W H x y q : Nat} (hx : x < W) (hy : y < H) : q ∈ nbL W H (y * W + x) ↔ (0 < y ∧ q = (y - 1) * W + x) ∨ (0 < x ∧ q = y * W + (x - 1)) ∨ (x + 1 < W ∧ q = y * W + (x + 1)) ∨ (y + 1 < H ∧ q = (y + 1) * W + x) := by
  obtain ⟨h1, h2, h3⟩ := pix_make hx hy
  have e1 : 0 < y → y * W + x - W = (y - 1) * W + x := fun h => by
    obtain ⟨z, rfl⟩ : ∃ z, y = z + 1 := ⟨y - 1, by omega⟩
    rw [Nat.add_sub_cancel, Nat.add_mul]
    omega
  have e2 : 0 < x → y * W + x - 1 = y * W + (x - 1) := fun h => by omega
  have e4 : y * W + x + W = (y + 1) * W + x := by rw [Nat.add_mul]; omega
  unfold nbL
  rw [h2, h3, List.mem_append, List.mem_append, List.mem_append]
  have k : ∀ (c : Prop) [Decidable c] (a : Nat), (q ∈ if c then [a] else []) ↔ c ∧ q = a := fun c _ a => by
    by_cases hc : c
    · rw [if_pos hc]; simp [hc]
    · rw [if_neg hc]; simp [hc]
  rw [k, k, k, k]
  constructor
  · rintro (⟨a, b⟩ | ⟨a, b⟩ | ⟨a, b⟩ | ⟨a, b⟩)
    · exact .inl ⟨a, by rw [b, e1 a]⟩
    · exact .inr (.inl ⟨a, by rw [b, e2 a]⟩)
    · exact .inr (.inr (.inl ⟨a, by rw [b, Nat.add_assoc]⟩))
    · exact .inr (.inr (.inr ⟨a, by rw [b, e4]⟩))
  · rintro (⟨a, b⟩ | ⟨a, b⟩ | ⟨a, b⟩ | ⟨a, b⟩)
    · exact .inl ⟨a, by rw [b, e1 a]⟩
    · exact .inr (.inl ⟨a, by rw [b, e2 a]⟩)
    · exact .inr (.inr (.inl ⟨a, by rw [b, Nat.add_assoc]⟩))
    · exact .inr (.inr (.inr ⟨a, by rw [b, e4]⟩))
theorem nb_ok (W H : Nat) : NbOk (W * H) (nbL W H) := by
  constructor
  · intro p q hp hq
    obtain ⟨x, y, rfl, hx, hy, -, -⟩ := pix_split hp
    rcases (nb_iff hx hy).1 hq with ⟨a, rfl⟩ | ⟨a, rfl⟩ | ⟨a, rfl⟩ | ⟨a, rfl⟩
    · exact (pix_make hx (show y - 1 < H by omega)).1
    · exact (pix_make (show x - 1 < W by omega) hy).1
    · exact (pix_make a hy).1
    · exact (pix_make hx a).1
  · intro p q hp hq
    obtain ⟨x, y, rfl, hx, hy, -, -⟩ := pix_split hp
    rcases (nb_iff hx hy).1 hq with ⟨a, rfl⟩ | ⟨a, rfl⟩ | ⟨a, rfl⟩ | ⟨a, rfl⟩
    · exact (nb_iff hx (show y - 1 < H by omega)).2 (.inr (.inr (.inr ⟨by omega, by rw [show y - 1 + 1 = y by omega]⟩)))
    · exact (nb_iff (show x - 1 < W by omega) hy).2 (.inr (.inr (.inl ⟨by omega, by rw [show x - 1 + 1 = x by omega]⟩)))
    · exact (nb_iff a hy).2 (.inr (.inl ⟨by omega, by rw [Nat.add_sub_cancel]⟩))
    · exact (nb_iff hx a).2 (.inl ⟨by omega, by rw [Nat.add_sub_cancel]⟩)
end Go.Proofs.Ytidbjidcjmbnlaa
end
section
namespace Go.Proofs.Ytidbjidcjmbnlaa

/-- An area of the earlier map, or of the later one. -/
abbrev Nd := Bool × Nat
/-- What each element follows, its lead, and how far that is. -/
structure Forest (m : Nd → Option Nd) (L : Nd → Nd) (d : Nd → Nat) : Prop where
  root : ∀ x, m x = none → L x = x ∧ d x = 0
  step : ∀ x y, m x = some y → L x = L y ∧ d x = d y + 1
def updM (m : Nd → Option Nd) (y x : Nd) : Nd → Option Nd := fun z => if z = y then some x else m z
theorem forest_none : Forest (fun _ => none) id (fun _ => 0) := ⟨fun _ _ => ⟨rfl, rfl⟩, fun _ _ h => by cases h⟩
theorem Forest.lead {m : Nd → Option Nd} {L : Nd → Nd} {d : Nd → Nat} (h : Forest m L d) : ∀ (n : Nat) (x : Nd), d x ≤ n → m (L x) = none
  | n, x, hn => by
    cases hm : m x with
    | none => rw [(h.root x hm).1]; exact hm
    | some y =>
      obtain ⟨h1, h2⟩ := h.step x y hm
      cases n with
      | zero => omega
      | succ n => rw [h1]; exact h.lead n y (by omega)
theorem Forest.join {m : Nd → Option Nd} {L : Nd → Nd} {d : Nd → Nat} (h : Forest m L d) {x y : Nd} (hx : m x = none) (hy : m y = none) (hne : x ≠ y) :
    Forest (updM m y x) (fun z => if L z = y then x else L z) (fun z => if L z = y then d z + 1 else d z) := by
  obtain ⟨x1, x2⟩ := h.root x hx
  obtain ⟨y1, y2⟩ := h.root y hy
  constructor
  · intro z hz
    unfold updM at hz
    by_cases e : z = y
    · rw [if_pos e] at hz; cases hz
    · rw [if_neg e] at hz
      obtain ⟨z1, z2⟩ := h.root z hz
      simp only [z1, if_neg e]
      exact ⟨trivial, z2⟩
  · intro z v hz
    unfold updM at hz
    by_cases e : z = y
    · rw [if_pos e] at hz
      cases hz
      subst e
      simp only [y1, if_true, x1, if_neg hne, y2, x2]
      exact ⟨trivial, trivial⟩
    · rw [if_neg e] at hz
      obtain ⟨z1, z2⟩ := h.step z v hz
      simp only [z1, z2]
      by_cases c : L v = y
      · simp [c]
      · simp [c]
/-- What was joined stays joined. -/
theorem join_same {L : Nd → Nd} {x y a b : Nd} (h : L a = L b) : (fun z => if L z = y then x else L z) a = (fun z => if L z = y then x else L z) b := by simp only [h]
/-- Events: each with its lead, the areas of the earlier map, and those of the later one. -/
abbrev EvT := Nd × List Nat × List Nat
structure EvI (L : Nd → Nd) (i j : Nat) (E : List EvT) : Prop where
  nd : (E.map (·.1)).Nodup
  fr : ∀ e ∈ E, e.2.1 = (List.range i).filter fun a => decide (L (false, a) = e.1)
  to : ∀ e ∈ E, e.2.2 = (List.range j).filter fun a => decide (L (true, a) = e.1)
  hasF : ∀ a, a < i → ∃ e ∈ E, e.1 = L (false, a)
  hasT : ∀ a, a < j → ∃ e ∈ E, e.1 = L (true, a)
theorem evI_nil (L : Nd → Nd) : EvI L 0 0 [] := ⟨by simp, by simp, by simp, fun a h => absurd h (Nat.not_lt_zero _), fun a h => absurd h (Nat.not_lt_zero _)⟩
theorem filt_no {i : Nat} {P : Nat → Bool} (h : ∀ a, a < i → P a = false) : (List.range i).filter P = [] := List.filter_eq_nil_iff.2 fun a ha => by rw [h a (List.mem_range.1 ha)]; decide
theorem filt_succ (i : Nat) (P : Nat → Bool) : (List.range (i + 1)).filter P = (List.range i).filter P ++ if P i = true then [i] else [] := by
  rw [List.range_succ, List.filter_append]
  congr 1
  by_cases h : P i = true
  · simp [h]
  · simp [h]
/-- A new event at the end. -/
theorem EvI.new {L : Nd → Nd} {i j : Nat} {E : List EvT} {v : Nd} (h : EvI L i j E) (hv : v ∉ E.map (·.1)) : EvI L i j (E ++ [(v, [], [])]) := by
  have h1 : ∀ a, a < i → L (false, a) ≠ v := fun a ha e => by
    obtain ⟨x, hx, e2⟩ := h.hasF a ha
    exact hv (List.mem_map.2 ⟨x, hx, e2.trans e⟩)
  have h2 : ∀ a, a < j → L (true, a) ≠ v := fun a ha e => by
    obtain ⟨x, hx, e2⟩ := h.hasT a ha
    exact hv (List.mem_map.2 ⟨x, hx, e2.trans e⟩)
  refine ⟨?_, fun e he => ?_, fun e he => ?_, fun a ha => ?_, fun a ha => ?_⟩
  · rw [List.map_append, List.nodup_append]
    exact ⟨h.nd, by simp, fun a ha b hb e => by
      have : b = v := by simpa using hb
      subst this
      subst e
      exact hv ha⟩
  · rcases List.mem_append.1 he with he | he
    · exact h.fr e he
    · rw [List.mem_singleton.1 he]
      exact (filt_no fun a ha => decide_eq_false (h1 a ha)).symm
  · rcases List.mem_append.1 he with he | he
    · exact h.to e he
    · rw [List.mem_singleton.1 he]
      exact (filt_no fun a ha => decide_eq_false (h2 a ha)).symm
  · obtain ⟨x, hx, e⟩ := h.hasF a ha
    exact ⟨x, List.mem_append_left _ hx, e⟩
  · obtain ⟨x, hx, e⟩ := h.hasT a ha
    exact ⟨x, List.mem_append_left _ hx, e⟩
def addF (E : List EvT) (k a : Nat) : List EvT := E.modify k fun e => (e.1, e.2.1 ++ [a], e.2.2)
def addT (E : List EvT) (k a : Nat) : List EvT := E.modify k fun e => (e.1, e.2.1, e.2.2 ++ [a])
theorem mod_get {α : Type} (l : List α) (k : Nat) (g : α → α) (j : Nat) : (l.modify k g)[j]? = (l[j]?).map (if k = j then g else id) := by
  rw [List.getElem?_modify]
  by_cases h : k = j
  · simp [h]
  · simp [h]
theorem EvI.addF {L : Nd → Nd} {i : Nat} {E : List EvT} {k : Nat} {e0 : EvT} (h : EvI L i 0 E) (hk : E[k]? = some e0) (hv : e0.1 = L (false, i)) : EvI L (i + 1) 0 (addF E k i) := by
  have hlead : (Go.Proofs.Ytidbjidcjmbnlaa.addF E k i).map (·.1) = E.map (·.1) := by
    apply List.ext_getElem?
    intro j
    unfold Go.Proofs.Ytidbjidcjmbnlaa.addF
    rw [List.getElem?_map, mod_get, List.getElem?_map, Option.map_map]
    by_cases hj : k = j
    · rw [if_pos hj]; rfl
    · rw [if_neg hj]; rfl
  have hat : ∀ e ∈ Go.Proofs.Ytidbjidcjmbnlaa.addF E k i, (e = (e0.1, e0.2.1 ++ [i], e0.2.2)) ∨ (e ∈ E ∧ e.1 ≠ e0.1) := fun e he => by
    obtain ⟨j, hj⟩ := List.mem_iff_getElem?.1 he
    unfold Go.Proofs.Ytidbjidcjmbnlaa.addF at hj
    rw [mod_get] at hj
    by_cases hkj : k = j
    · subst hkj
      rw [if_pos rfl, hk] at hj
      exact .inl (by simpa using hj.symm)
    · rw [if_neg hkj] at hj
      have hj2 : E[j]? = some e := by simpa using hj
      refine .inr ⟨List.mem_of_getElem? hj2, fun e1 => hkj ?_⟩
      have n1 : (E.map (·.1))[k]? = some e0.1 := by rw [List.getElem?_map, hk]; rfl
      have n2 : (E.map (·.1))[j]? = some e0.1 := by rw [List.getElem?_map, hj2, ← e1]; rfl
      exact (List.getElem?_inj (List.getElem?_eq_some_iff.1 n1).1 h.nd).1 (n1.trans n2.symm)
  have hme : e0 ∈ E := List.mem_of_getElem? hk
  refine ⟨by rw [hlead]; exact h.nd, fun e he => ?_, fun e he => ?_, fun a ha => ?_, fun a ha => absurd ha (Nat.not_lt_zero _)⟩
  · rw [filt_succ]
    rcases hat e he with rfl | ⟨h1, h2⟩
    · simp only
      rw [if_pos (decide_eq_true hv.symm), h.fr e0 hme]
    · rw [if_neg (by rw [decide_eq_false (fun e3 => h2 (by rw [hv, e3]))]; decide), List.append_nil]
      exact h.fr e h1
  · rcases hat e he with rfl | ⟨h1, -⟩
    · exact h.to e0 hme
    · exact h.to e h1
  · have hl : ∀ v, v ∈ E.map (·.1) → ∃ e ∈ Go.Proofs.Ytidbjidcjmbnlaa.addF E k i, e.1 = v := fun v hv => by rw [← hlead] at hv; exact List.mem_map.1 hv
    by_cases e : a = i
    · subst e
      exact hl _ (List.mem_map.2 ⟨e0, hme, hv⟩)
    · obtain ⟨x, hx, e2⟩ := h.hasF a (by omega)
      exact hl _ (List.mem_map.2 ⟨x, hx, e2⟩)
theorem EvI.addT {L : Nd → Nd} {i j : Nat} {E : List EvT} {k : Nat} {e0 : EvT} (h : EvI L i j E) (hk : E[k]? = some e0) (hv : e0.1 = L (true, j)) : EvI L i (j + 1) (addT E k j) := by
  have hlead : (Go.Proofs.Ytidbjidcjmbnlaa.addT E k j).map (·.1) = E.map (·.1) := by
    apply List.ext_getElem?
    intro q
    unfold Go.Proofs.Ytidbjidcjmbnlaa.addT
    rw [List.getElem?_map, mod_get, List.getElem?_map, Option.map_map]
    by_cases hj : k = q
    · rw [if_pos hj]; rfl
    · rw [if_neg hj]; rfl
  have hat : ∀ e ∈ Go.Proofs.Ytidbjidcjmbnlaa.addT E k j, (e = (e0.1, e0.2.1, e0.2.2 ++ [j])) ∨ (e ∈ E ∧ e.1 ≠ e0.1) := fun e he => by
    obtain ⟨q, hj⟩ := List.mem_iff_getElem?.1 he
    unfold Go.Proofs.Ytidbjidcjmbnlaa.addT at hj
    rw [mod_get] at hj
    by_cases hkj : k = q
    · subst hkj
      rw [if_pos rfl, hk] at hj
      exact .inl (by simpa using hj.symm)
    · rw [if_neg hkj] at hj
      have hj2 : E[q]? = some e := by simpa using hj
      refine .inr ⟨List.mem_of_getElem? hj2, fun e1 => hkj ?_⟩
      have n1 : (E.map (·.1))[k]? = some e0.1 := by rw [List.getElem?_map, hk]; rfl
      have n2 : (E.map (·.1))[q]? = some e0.1 := by rw [List.getElem?_map, hj2, ← e1]; rfl
      exact (List.getElem?_inj (List.getElem?_eq_some_iff.1 n1).1 h.nd).1 (n1.trans n2.symm)
  have hme : e0 ∈ E := List.mem_of_getElem? hk
  have hl : ∀ v, v ∈ E.map (·.1) → ∃ e ∈ Go.Proofs.Ytidbjidcjmbnlaa.addT E k j, e.1 = v := fun v hv => by rw [← hlead] at hv; exact List.mem_map.1 hv
  refine ⟨by rw [hlead]; exact h.nd, fun e he => ?_, fun e he => ?_, fun a ha => ?_, fun a ha => ?_⟩
  · rcases hat e he with rfl | ⟨h1, -⟩
    · exact h.fr e0 hme
    · exact h.fr e h1
  · rw [filt_succ]
    rcases hat e he with rfl | ⟨h1, h2⟩
    · simp only
      rw [if_pos (decide_eq_true hv.symm), h.to e0 hme]
    · rw [if_neg (by rw [decide_eq_false (fun e3 => h2 (by rw [hv, e3]))]; decide), List.append_nil]
      exact h.to e h1
  · obtain ⟨x, hx, e2⟩ := h.hasF a ha
    exact hl _ (List.mem_map.2 ⟨x, hx, e2⟩)
  · by_cases e : a = j
    · subst e
      exact hl _ (List.mem_map.2 ⟨e0, hme, hv⟩)
    · obtain ⟨x, hx, e2⟩ := h.hasT a (by omega)
      exact hl _ (List.mem_map.2 ⟨x, hx, e2⟩)
end Go.Proofs.Ytidbjidcjmbnlaa
end
section
namespace Go.Proofs.Ytidbjidcjmbnlaa

/-- Areas of a map: for each pixel the number of its area; the pixels, and the kernels, of each. -/
structure AreasR (W H : Nat) (may inn : Nat → Bool) (f : Nat → Int) (pix : List (List Nat)) (kern : List (List (List Nat))) : Prop where
  part : PartI (W * H) (nbL W H) may pix.length f
  all : ∀ p, p < W * H → may p = true → 0 ≤ f p
  klen : kern.length = pix.length
  pixs : ∀ i, i < pix.length → ∀ p, p ∈ pix.getD i [] ↔ p < W * H ∧ f p = i
  sort : ∀ i, i < pix.length → (pix.getD i []).Pairwise (· < ·)
  ne : ∀ i, i < pix.length → pix.getD i [] ≠ []
  kerns : ∀ i, i < pix.length → ∀ k ∈ kern.getD i [], ∀ p ∈ k, p < W * H ∧ inn p = true ∧ f p = i
/-- A kernel lies in one area. -/
theorem kern_area {N : Nat} {nb : Nat → List Nat} {may inn : Nat → Bool} {K K' : Nat} {f f' : Nat → Int} (hn : NbOk N nb) (A : PartI N nb may K f) (hall : ∀ p, p < N → may p = true → 0 ≤ f p) (B : PartI N nb inn K' f') (hs : ∀ p, p < N → inn p = true → may p = true)
    {p q : Nat} (hp : p < N) (hq : q < N) (h0 : 0 ≤ f' p) (h : f' p = f' q) : f p = f q := by
  refine B.conn f (fun a b ha hb wa wb => ?_) p q hp hq h0 h
  exact (A.closed a b ha (hall a ha (hs a ha wa)) hb (hs b (hn.lt a b ha hb) wb)).symm
/-- The pixel to which a pixel moves, in the grid. -/
def shiftP (W H p : Nat) (m : Int × Int) : Option Nat :=
  if 0 ≤ ((p % W : Nat) : Int) + m.1 ∧ ((p % W : Nat) : Int) + m.1 < W ∧ 0 ≤ ((p / W : Nat) : Int) + m.2 ∧ ((p / W : Nat) : Int) + m.2 < H then some ((((p / W : Nat) : Int) + m.2) * W + (((p % W : Nat) : Int) + m.1)).toNat else none
def followB (W H : Nat) (kern : List (List Nat)) (f : Nat → Int) (j : Int) (m : Int × Int) : Bool := kern.all fun k => k.all fun p => match shiftP W H p m with
  | some q => f q == j
  | none => true
theorem follow_of {W H : Nat} {kern : List (List Nat)} {f : Nat → Int} {j : Int} {m : Int × Int} (h : ∀ k ∈ kern, ∀ p ∈ k, ∀ q, shiftP W H p m = some q → f q = j) : followB W H kern f j m = true :=
  List.all_eq_true.2 fun k hk => List.all_eq_true.2 fun p hp => by
    cases hs : shiftP W H p m with
    | none => rfl
    | some q => simp [h k hk p hp q hs]
theorem shift_some {W H p : Nat} {m : Int × Int} {q : Nat} (h : shiftP W H p m = some q) : q < W * H ∧ ((q % W : Nat) : Int) = ((p % W : Nat) : Int) + m.1 ∧ ((q / W : Nat) : Int) = ((p / W : Nat) : Int) + m.2 := by
  unfold shiftP at h
  split at h
  · rename_i hc
    obtain ⟨h1, h2, h3, h4⟩ := hc
    obtain ⟨x, hx⟩ : ∃ x : Nat, (x : Int) = ((p % W : Nat) : Int) + m.1 := ⟨(((p % W : Nat) : Int) + m.1).toNat, by omega⟩
    obtain ⟨y, hy⟩ : ∃ x : Nat, (x : Int) = ((p / W : Nat) : Int) + m.2 := ⟨(((p / W : Nat) : Int) + m.2).toNat, by omega⟩
    rw [← hx, ← hy] at h ⊢
    rw [← hx] at h2
    rw [← hy] at h4
    obtain ⟨k1, k2, k3⟩ := pix_make (W := W) (H := H) (show x < W by omega) (show y < H by omega)
    have e : q = y * W + x := by
      have := Option.some.inj h
      rw [← this]
      have : ((y : Int) * W + x) = ((y * W + x : Nat) : Int) := by push_cast; rfl
      rw [this]
      rfl
    rw [e, k2, k3]
    exact ⟨k1, rfl, rfl⟩
  · cases h
/-- What is known of the truth in a map. -/
def FieldOk (M : Mvd) (n : Nat) (may inn : Nat → Bool) : Prop := ∀ p, p < M.W * M.H → (inn p = true → truP M n p = true) ∧ (truP M n p = true → may p = true)
/-- Areas within the reach of each other lie in one event. -/
def NearE (W H : Nat) (r : Int) (f0 f1 : Nat → Int) (L : Nd → Nd) : Prop := ∀ p q, p < W * H → q < W * H → 0 ≤ f0 p → 0 ≤ f1 q → -r ≤ ((q % W : Nat) : Int) - ((p % W : Nat) : Int) → ((q % W : Nat) : Int) - ((p % W : Nat) : Int) ≤ r → -r ≤ ((q / W : Nat) : Int) - ((p / W : Nat) : Int) → ((q / W : Nat) : Int) - ((p / W : Nat) : Int) ≤ r → L (false, (f0 p).toNat) = L (true, (f1 q).toNat)
section
variable {M : Mvd} {may0 may1 in0 in1 : Nat → Bool} {f0 f1 : Nat → Int} {pix0 pix1 : List (List Nat)} {kern0 kern1 : List (List (List Nat))} {L : Nd → Nd} {E : List EvT} {i j : Nat}
theorem ev_from (h : EvI L pix0.length pix1.length E) {e : EvT} (he : e ∈ E) {a : Nat} : a ∈ e.2.1 ↔ a < pix0.length ∧ L (false, a) = e.1 := by
  rw [h.fr e he, List.mem_filter, List.mem_range, decide_eq_true_iff]
theorem ev_to (h : EvI L pix0.length pix1.length E) {e : EvT} (he : e ∈ E) {a : Nat} : a ∈ e.2.2 ↔ a < pix1.length ∧ L (true, a) = e.1 := by
  rw [h.to e he, List.mem_filter, List.mem_range, decide_eq_true_iff]
/-- The true move follows, from the earlier map to the later one. -/
theorem follow_on (hx : -2 ≤ M.mx ∧ M.mx ≤ 2) (hy : -2 ≤ M.my ∧ M.my ≤ 2) (F0 : FieldOk M 0 may0 in0) (F1 : FieldOk M 1 may1 in1) (A0 : AreasR M.W M.H may0 in0 f0 pix0 kern0) (A1 : AreasR M.W M.H may1 in1 f1 pix1 kern1)
    (hN : NearE M.W M.H 2 f0 f1 L) (hE : EvI L pix0.length pix1.length E) {e : EvT} (he : e ∈ E) (h1 : e.2.1 = [i]) (h2 : e.2.2 = [j]) : followB M.W M.H (kern0.getD i []) f1 j (M.mx, M.my) = true := by
  have hi : i < pix0.length := ((ev_from hE he).1 (by rw [h1]; simp)).1
  have hl : L (false, i) = e.1 := ((ev_from hE he).1 (by rw [h1]; simp)).2
  refine follow_of fun k hk p hp q hs => ?_
  obtain ⟨hpN, hpi, hpf⟩ := A0.kerns i hi k hk p hp
  obtain ⟨hqN, qx, qy⟩ := shift_some hs
  simp only at qx qy
  have ht := (F0 p hpN).1 hpi
  have ht1 : truP M 1 q = true := by
    unfold truP
    rw [qx, qy]
    have := tru_step M 0 ((p % M.W : Nat) : Int) ((p / M.W : Nat) : Int)
    exact this.trans ht
  have hm := (F1 q hqN).2 ht1
  have h0 := A1.all q hqN hm
  rcases A1.part.lab q hqN with h3 | ⟨-, h3, -⟩
  · omega
  · have hn := hN p q hpN hqN (by omega) h0 (by omega) (by omega) (by omega) (by omega)
    rw [hpf] at hn
    have e1 : ((i : Int)).toNat = i := rfl
    rw [e1, hl] at hn
    have hj := (ev_to hE he (a := (f1 q).toNat)).2 ⟨by omega, hn.symm⟩
    rw [h2, List.mem_singleton] at hj
    omega
/-- And back. -/
theorem follow_back (hx : -2 ≤ M.mx ∧ M.mx ≤ 2) (hy : -2 ≤ M.my ∧ M.my ≤ 2) (F0 : FieldOk M 0 may0 in0) (F1 : FieldOk M 1 may1 in1) (A0 : AreasR M.W M.H may0 in0 f0 pix0 kern0) (A1 : AreasR M.W M.H may1 in1 f1 pix1 kern1)
    (hN : NearE M.W M.H 2 f0 f1 L) (hE : EvI L pix0.length pix1.length E) {e : EvT} (he : e ∈ E) (h1 : e.2.1 = [i]) (h2 : e.2.2 = [j]) : followB M.W M.H (kern1.getD j []) f0 i (-M.mx, -M.my) = true := by
  have hj : j < pix1.length := ((ev_to hE he).1 (by rw [h2]; simp)).1
  have hl : L (true, j) = e.1 := ((ev_to hE he).1 (by rw [h2]; simp)).2
  refine follow_of fun k hk p hp q hs => ?_
  obtain ⟨hpN, hpi, hpf⟩ := A1.kerns j hj k hk p hp
  obtain ⟨hqN, qx, qy⟩ := shift_some hs
  simp only at qx qy
  have ht := (F1 p hpN).1 hpi
  have ht0 : truP M 0 q = true := by
    unfold truP at ht ⊢
    rw [qx, qy]
    have := tru_back M 0 ((p % M.W : Nat) : Int) ((p / M.W : Nat) : Int)
    exact this.symm.trans ht
  have hm := (F0 q hqN).2 ht0
  have h0 := A0.all q hqN hm
  rcases A0.part.lab q hqN with h3 | ⟨-, h3, -⟩
  · omega
  · have hn := hN q p hqN hpN h0 (by omega) (by omega) (by omega) (by omega) (by omega)
    rw [hpf] at hn
    have e1 : ((j : Int)).toNat = j := rfl
    rw [e1, hl] at hn
    have hi := (ev_from hE he (a := (f0 q).toNat)).2 ⟨by omega, hn⟩
    rw [h1, List.mem_singleton] at hi
    omega
end
end Go.Proofs.Ytidbjidcjmbnlaa
end
section
namespace Go.Proofs.Ytidbjidcjmbnlaa

/-- By how many columns and rows something can have come. -/
structure Come where
  lx : Int
  rx : Int
  ly : Int
  ry : Int
def comeB (c : Come) (m : Int × Int) : Prop := c.lx ≤ m.1 ∧ m.1 ≤ c.rx ∧ c.ly ≤ m.2 ∧ m.2 ≤ c.ry
/-- The sources of a pixel that are in the grid. -/
def srcB (W H : Nat) (c : Come) (p q : Nat) : Bool := decide (q < W * H ∧ c.lx ≤ ((p % W : Nat) : Int) - ((q % W : Nat) : Int) ∧ ((p % W : Nat) : Int) - ((q % W : Nat) : Int) ≤ c.rx ∧ c.ly ≤ ((p / W : Nat) : Int) - ((q / W : Nat) : Int) ∧ ((p / W : Nat) : Int) - ((q / W : Nat) : Int) ≤ c.ry)
/-- Whether there are others. -/
def outB (W H : Nat) (c : Come) (p : Nat) : Bool := decide (((p % W : Nat) : Int) - c.rx < 0 ∨ (W : Int) ≤ ((p % W : Nat) : Int) - c.lx ∨ ((p / W : Nat) : Int) - c.ry < 0 ∨ (H : Int) ≤ ((p / W : Nat) : Int) - c.ly)
def allB (W H : Nat) (c : Come) (sure : Nat → Bool) (p : Nat) : Bool := !outB W H c p && (List.range (W * H)).all fun q => !srcB W H c p q || sure q
def someB (W H : Nat) (c : Come) (may : Nat → Bool) (p : Nat) : Bool := (List.range (W * H)).any fun q => srcB W H c p q && may q
/-- The state of a pixel. -/
def stateN (W H : Nat) (c : Come) (sure may : Nat → Bool) (p : Nat) : Nat := if allB W H c sure p = true then 2 else if someB W H c may p = true then 1 else 0
section
variable {M : Mvd} {may1 in1 : Nat → Bool} {f1 : Nat → Int} {pix1 : List (List Nat)} {kern1 : List (List (List Nat))} {p : Nat}
theorem src_of {W H q : Nat} {c : Come} {m : Int × Int} (hc : comeB c m) (hq : q < W * H) (hx : ((q % W : Nat) : Int) = ((p % W : Nat) : Int) - m.1) (hy : ((q / W : Nat) : Int) = ((p / W : Nat) : Int) - m.2) : srcB W H c p q = true := by
  obtain ⟨h1, h2, h3, h4⟩ := hc
  exact decide_eq_true ⟨hq, by omega, by omega, by omega, by omega⟩
/-- What is true on the next map came from a pixel of an area. -/
theorem from_area (F1 : FieldOk M 1 may1 in1) (A1 : AreasR M.W M.H may1 in1 f1 pix1 kern1) (hp : p < M.W * M.H) (ht : truP M 2 p = true) :
    ∃ i q, i < pix1.length ∧ q < M.W * M.H ∧ q ∈ pix1.getD i [] ∧ ∀ c, comeB c (M.mx, M.my) → srcB M.W M.H c p q = true := by
  obtain ⟨hg, ht1⟩ := tru_from (n := 1) (pix_grid hp) ht
  obtain ⟨q, -, hq, qx, qy⟩ := pix_of hg
  have hq1 : truP M 1 q = true := by unfold truP; rw [qx, qy]; exact ht1
  have hm := (F1 q hq).2 hq1
  have h0 := A1.all q hq hm
  rcases A1.part.lab q hq with h3 | ⟨-, h3, -⟩
  · omega
  · refine ⟨(f1 q).toNat, q, by omega, hq, (A1.pixs _ (by omega) q).2 ⟨hq, by omega⟩, fun c hc => src_of hc hq qx qy⟩
theorem state_may {W H q : Nat} {c : Come} {sure may : Nat → Bool} (hq : q < W * H) (hs : srcB W H c p q = true) (hm : may q = true) : stateN W H c sure may p ≠ 0 := by
  have h : someB W H c may p = true := List.any_eq_true.2 ⟨q, List.mem_range.2 hq, by rw [hs, hm]; rfl⟩
  unfold stateN
  rw [h]
  split <;> simp
/-- What is sure is true. -/
theorem state_sure {c : Come} {sure may : Nat → Bool} (hc : comeB c (M.mx, M.my)) (hp : p < M.W * M.H) (hsure : ∀ q, q < M.W * M.H → sure q = true → truP M 1 q = true) (h : stateN M.W M.H c sure may p = 2) : truP M 2 p = true := by
  have ha : allB M.W M.H c sure p = true := by
    unfold stateN at h
    split at h
    · assumption
    · split at h <;> cases h
  unfold allB at ha
  rw [Bool.and_eq_true, List.all_eq_true] at ha
  obtain ⟨ho, hs⟩ := ha
  have ho2 : ¬ (((p % M.W : Nat) : Int) - c.rx < 0 ∨ (M.W : Int) ≤ ((p % M.W : Nat) : Int) - c.lx ∨ ((p / M.W : Nat) : Int) - c.ry < 0 ∨ (M.H : Int) ≤ ((p / M.W : Nat) : Int) - c.ly) := by
    unfold outB at ho
    simpa using ho
  obtain ⟨c1, c2, c3, c4⟩ := hc
  simp only at c1 c2 c3 c4
  have hg : gridB M (((p % M.W : Nat) : Int) - M.mx) (((p / M.W : Nat) : Int) - M.my) = true := gridB_iff.2 (by omega)
  obtain ⟨q, -, hq, qx, qy⟩ := pix_of hg
  have h1 := hs q (List.mem_range.2 hq)
  rw [src_of (m := (M.mx, M.my)) ⟨c1, c2, c3, c4⟩ hq qx qy] at h1
  have h2 := hsure q hq (by simpa using h1)
  unfold truP at h2 ⊢
  rw [qx, qy] at h2
  exact (tru_back M 1 _ _).trans h2
end
end Go.Proofs.Ytidbjidcjmbnlaa
end
section
namespace Go.Proofs.Ytidbjidcjmbnlaa
open Go Go.RowKit

/-- The loops of a code, in order. -/
def loopsOf : Code → List Code
  | .loop c => .loop c :: loopsOf c
  | .seq a b => loopsOf a ++ loopsOf b
  | .block _ c => loopsOf c
  | .scope c => loopsOf c
  | .cond _ a b => loopsOf a ++ loopsOf b
  | _ => []
end Go.Proofs.Ytidbjidcjmbnlaa
end
section
namespace Go.Proofs.Ytidbjidcjmbnlaa

def partL (N : Nat) (f : Nat → Int) (k : Nat) : List Nat := (List.range N).filter fun p => decide (f p = (k : Int))
/-- The parts, each a list of its pixels in order. -/
def partsL (N : Nat) (f : Nat → Int) (K : Nat) : List (List Nat) := (List.range K).map (partL N f)
theorem partL_mem {N : Nat} {f : Nat → Int} {k p : Nat} : p ∈ partL N f k ↔ p < N ∧ f p = (k : Int) := by
  unfold partL
  rw [List.mem_filter, List.mem_range, decide_eq_true_eq]
theorem partL_sort (N : Nat) (f : Nat → Int) (k : Nat) : (partL N f k).Pairwise (· < ·) := List.pairwise_lt_range.filter _
theorem partsL_get {N K i : Nat} {f : Nat → Int} (h : i < K) : (partsL N f K).getD i [] = partL N f i := by
  unfold partsL
  rw [List.getD_eq_getElem?_getD, List.getElem?_map, List.getElem?_range h]
  rfl
theorem partsL_len (N K : Nat) (f : Nat → Int) : (partsL N f K).length = K := by unfold partsL; rw [List.length_map, List.length_range]
theorem partL_congr {N k : Nat} {f g : Nat → Int} (h : ∀ p, p < N → (f p = (k : Int) ↔ g p = (k : Int))) : partL N f k = partL N g k :=
  List.filter_congr fun p hp => decide_eq_decide.2 (h p (List.mem_range.1 hp))
theorem partsL_congr {N K : Nat} {f g : Nat → Int} (h : ∀ k, k < K → ∀ p, p < N → (f p = (k : Int) ↔ g p = (k : Int))) : partsL N f K = partsL N g K :=
  List.map_congr_left fun k hk => partL_congr (h k (List.mem_range.1 hk))
theorem partsL_succ (N K : Nat) (f : Nat → Int) : partsL N f (K + 1) = partsL N f K ++ [partL N f K] := by
  unfold partsL
  rw [List.range_succ, List.map_append]
  rfl
/-- A list without repetitions, sorted, is the part that has its members. -/
theorem sort_part {N k : Nat} {f : Nat → Int} {l : List Nat} (hn : l.Nodup) (hm : ∀ p, p ∈ l ↔ p < N ∧ f p = (k : Int)) :
    ((l.map fun p : Nat => (p : Int)).mergeSort fun x y => decide (x ≤ y)) = (partL N f k).map fun p : Nat => (p : Int) := by
  have hp : ((l.map fun p : Nat => (p : Int)).mergeSort fun x y => decide (x ≤ y)).Perm ((partL N f k).map fun p : Nat => (p : Int)) := by
    refine (List.mergeSort_perm _ _).trans (List.Perm.map _ ?_)
    rw [List.perm_ext_iff_of_nodup hn ((partL_sort N f k).imp fun h => Nat.ne_of_lt h)]
    exact fun p => (hm p).trans partL_mem.symm
  refine hp.eq_of_pairwise (le := fun a b => a ≤ b) (fun a b _ _ h1 h2 => Int.le_antisymm h1 h2) ?_ ?_
  · have h := List.pairwise_mergeSort (le := fun x y : Int => decide (x ≤ y)) (fun a b c h1 h2 => by simp at *; omega) (fun a b => by simp; omega) (l.map fun p : Nat => (p : Int))
    exact h.imp fun h => by simpa using h
  · rw [List.pairwise_map]
    exact (partL_sort N f k).imp fun h => by omega
section
variable {N : Nat} {nb : Nat → List Nat} {wants : Nat → Bool} {K : Nat} {f : Nat → Int} {l : List Nat} {i : Nat}
theorem bfs_take (hn : NbOk N nb) (h : BfsI N nb wants K f l i 0) (hi : i < l.length) {q : Nat} (hqm : q ∈ nb (l.getD i 0)) (hf : f q < 0) (hw : wants q = true) : BfsI N nb wants K (updF f q K) (l ++ [q]) i 0 := by
  have hmi : l.getD i 0 ∈ l := by rw [List.getD_eq_getElem?_getD, List.getElem?_eq_getElem hi]; exact List.getElem_mem _
  have hri := (h.mem _).1 hmi
  have hqN := hn.lt _ _ hri.1 hqm
  have hql : q ∉ l := fun e => by have := (h.mem q).1 e; omega
  have hne : ∀ r, 0 ≤ f r → r ≠ q := fun r h0 e => by subst e; omega
  have hge : ∀ r, 0 ≤ f r → 0 ≤ updF f q K r := fun r h0 => by rw [updF_ne (hne r h0)]; exact h0
  have hiw : wants (l.getD i 0) = true := by
    rcases h.lab _ hri.1 with h1 | ⟨-, -, h3⟩
    · have := hri.2; omega
    · exact h3
  refine ⟨fun r hr => ?_, fun r => ?_, ?_, by simp, fun a b ha h0 h1 hb hwb => ?_, fun g hg a b ha hb h0 h1 hab => ?_, fun g hg a b ha hb => ?_, fun j r hj hr hwr => ?_, fun r hr hwr => ?_⟩
  · by_cases e : r = q
    · subst e
      rw [updF_at]
      exact .inr ⟨by omega, Int.le_refl _, hw⟩
    · rw [updF_ne e]
      exact h.lab r hr
  · rw [List.mem_append, List.mem_singleton, h.mem]
    by_cases e : r = q
    · subst e
      rw [updF_at]
      exact ⟨fun _ => ⟨hqN, rfl⟩, fun _ => .inr rfl⟩
    · rw [updF_ne e]
      exact ⟨fun h1 => h1.resolve_right e, fun h1 => .inl h1⟩
  · rw [List.nodup_append]
    exact ⟨h.nd, by simp, fun a ha b hb e => by rw [List.mem_singleton.1 hb] at e; subst e; exact hql ha⟩
  · have ea : a ≠ q := fun e => by subst e; rw [updF_at] at h1; omega
    rw [updF_ne ea] at h0 h1 ⊢
    have hc := h.old a b ha h0 h1 hb hwb
    rw [updF_ne (hne b (by omega)), hc]
  · have ea : a ≠ q := fun e => by subst e; rw [updF_at] at h1; omega
    rw [updF_ne ea] at h0 h1 hab
    have eb : b ≠ q := fun e => by subst e; rw [updF_at] at hab; omega
    rw [updF_ne eb] at hab
    exact h.connO g hg a b ha hb h0 h1 hab
  · have hqi : g q = g (l.getD i 0) := (hg _ _ hri.1 hqm hiw hw).symm
    have key : ∀ c, c ∈ l ++ [q] → g c = g (l.getD i 0) := fun c hc => by
      rcases List.mem_append.1 hc with h1 | h1
      · exact h.conn g hg c _ h1 hmi
      · rw [List.mem_singleton.1 h1, hqi]
    rw [key a ha, key b hb]
  · rw [getD_app (by omega)] at hr
    exact hge r (h.done j r hj hr hwr)
  · simp at hr
theorem bfs_on (h : BfsI N nb wants K f l i 0) (hall : ∀ q ∈ nb (l.getD i 0), wants q = true → 0 ≤ f q) : BfsI N nb wants K f l (i + 1) 0 :=
  ⟨h.lab, h.mem, h.nd, h.ne, h.old, h.connO, h.conn, fun j q hj hq hw => by
    by_cases e : j = i
    · subst e
      exact hall q hq hw
    · exact h.done j q (by omega) hq hw, fun q hq => by simp at hq⟩
/-- What a search leaves as it was. -/
structure Same (N K : Nat) (f0 f : Nat → Int) : Prop where
  lists : ∀ k, k < K → ∀ p, p < N → (f p = (k : Int) ↔ f0 p = (k : Int))
  pos : ∀ p, p < N → 0 ≤ f0 p → 0 ≤ f p
theorem Same.refl (N K : Nat) (f : Nat → Int) : Same N K f f := ⟨fun _ _ _ _ => Iff.rfl, fun _ _ h => h⟩
theorem Same.upd {f0 : Nat → Int} {q : Nat} (h : Same N K f0 f) (hq : f q < 0) : Same N K f0 (updF f q K) := by
  refine ⟨fun k hk p hp => ?_, fun p hp h0 => ?_⟩
  · by_cases e : p = q
    · subst e
      rw [updF_at, ← h.lists k hk p hp]
      constructor
      · intro h1; omega
      · intro h1; omega
    · rw [updF_ne e]
      exact h.lists k hk p hp
  · by_cases e : p = q
    · subst e; rw [updF_at]; omega
    · rw [updF_ne e]
      exact h.pos p hp h0
end
end Go.Proofs.Ytidbjidcjmbnlaa
end
section
namespace Go.Proofs.Ytidbjidcjmbnlaa

/-- Whether a pixel is within the reach of another one. -/
def RchP (W : Nat) (r : Int) (p q : Nat) : Prop := -r ≤ ((q % W : Nat) : Int) - ((p % W : Nat) : Int) ∧ ((q % W : Nat) : Int) - ((p % W : Nat) : Int) ≤ r ∧ -r ≤ ((q / W : Nat) : Int) - ((p / W : Nat) : Int) ∧ ((q / W : Nat) : Int) - ((p / W : Nat) : Int) ≤ r
/-- So far have areas been joined: the pixels up to p, and of p itself the rows up to v, and of the row v the columns up to u. -/
def JoinI (W H : Nat) (r : Int) (f0 f1 : Nat → Int) (L : Nd → Nd) (p v u : Nat) : Prop :=
  ∀ a q, a < W * H → q < W * H → 0 ≤ f0 a → 0 ≤ f1 q → RchP W r a q → (a < p ∨ (a = p ∧ (q / W < v ∨ (q / W = v ∧ q % W < u)))) → L (false, (f0 a).toNat) = L (true, (f1 q).toNat)
section
variable {W H : Nat} {r : Int} {f0 f1 : Nat → Int} {L : Nd → Nd} {p v u : Nat}
theorem joinI_nil : JoinI W H r f0 f1 L 0 0 0 := fun a q _ _ _ _ _ h => by
  generalize q / W = qd at *
  generalize q % W = qm at *
  omega
theorem JoinI.row (h : JoinI W H r f0 f1 L p 0 0) (hv : (v : Int) = max 0 (((p / W : Nat) : Int) - r)) : JoinI W H r f0 f1 L p v 0 := fun a q ha hq h0 h1 hr hc => by
  rcases hc with hc | ⟨rfl, hc⟩
  · exact h a q ha hq h0 h1 hr (.inl hc)
  · obtain ⟨-, -, h3, -⟩ := hr
    generalize q / W = qd at *
    generalize a / W = ad at *
    omega
theorem JoinI.col (h : JoinI W H r f0 f1 L p v 0) (hu : (u : Int) = max 0 (((p % W : Nat) : Int) - r)) : JoinI W H r f0 f1 L p v u := fun a q ha hq h0 h1 hr hc => by
  rcases hc with hc | ⟨rfl, hc | ⟨hc, hc2⟩⟩
  · exact h a q ha hq h0 h1 hr (.inl hc)
  · exact h a q ha hq h0 h1 hr (.inr ⟨rfl, .inl hc⟩)
  · obtain ⟨h1, -, -, -⟩ := hr
    generalize q % W = qd at *
    generalize a % W = ad at *
    omega
theorem pix_eq {q : Nat} (h1 : q / W = v) (h2 : q % W = u) : q = v * W + u := by
  have := Nat.div_add_mod q W
  rw [h1, h2] at this
  rw [← this, Nat.mul_comm]
theorem JoinI.skip (h : JoinI W H r f0 f1 L p v u) (hf : f1 (v * W + u) < 0) : JoinI W H r f0 f1 L p v (u + 1) := fun a q ha hq h0 h1 hr hc => by
  rcases hc with hc | ⟨rfl, hc | ⟨hc, hc2⟩⟩
  · exact h a q ha hq h0 h1 hr (.inl hc)
  · exact h a q ha hq h0 h1 hr (.inr ⟨rfl, .inl hc⟩)
  · by_cases e : q % W < u
    · exact h a q ha hq h0 h1 hr (.inr ⟨rfl, .inr ⟨hc, e⟩⟩)
    · have := pix_eq (W := W) hc (show q % W = u by omega)
      rw [this] at h1
      omega
theorem JoinI.add (h : JoinI W H r f0 f1 L p v u) : JoinI W H r f0 f1 (fun z => if L z = L (true, (f1 (v * W + u)).toNat) then L (false, (f0 p).toNat) else L z) p v (u + 1) := fun a q ha hq h0 h1 hr hc => by
  by_cases e : a = p ∧ q / W = v ∧ q % W = u
  · obtain ⟨rfl, e1, e2⟩ := e
    have := pix_eq (W := W) e1 e2
    rw [this]
    by_cases e3 : L (false, (f0 a).toNat) = L (true, (f1 (v * W + u)).toNat)
    · simp [e3]
    · simp [e3]
  · refine join_same (h a q ha hq h0 h1 hr ?_)
    rcases hc with hc | ⟨rfl, hc | ⟨hc, hc2⟩⟩
    · exact .inl hc
    · exact .inr ⟨rfl, .inl hc⟩
    · refine .inr ⟨rfl, .inr ⟨hc, ?_⟩⟩
      have : ¬ q % W = u := fun h => e ⟨rfl, hc, h⟩
      omega
theorem JoinI.endCol (h : JoinI W H r f0 f1 L p v u) (hW : 0 < W) (hu : min ((W : Int) - 1) (((p % W : Nat) : Int) + r) < u) : JoinI W H r f0 f1 L p (v + 1) 0 := fun a q ha hq h0 h1 hr hc => by
  rcases hc with hc | ⟨rfl, hc | ⟨hc, hc2⟩⟩
  · exact h a q ha hq h0 h1 hr (.inl hc)
  · by_cases e : q / W < v
    · exact h a q ha hq h0 h1 hr (.inr ⟨rfl, .inl e⟩)
    · refine h a q ha hq h0 h1 hr (.inr ⟨rfl, .inr ⟨by omega, ?_⟩⟩)
      have := Nat.mod_lt q hW
      obtain ⟨-, h2, -, -⟩ := hr
      generalize q % W = qd at *
      generalize a % W = ad at *
      omega
  · omega
theorem JoinI.endRow (h : JoinI W H r f0 f1 L p v 0) (hv : min ((H : Int) - 1) (((p / W : Nat) : Int) + r) < v) : JoinI W H r f0 f1 L (p + 1) 0 0 := fun a q ha hq h0 h1 hr hc => by
  by_cases e : a < p
  · exact h a q ha hq h0 h1 hr (.inl e)
  · have e2 : a = p := by
      clear hr
      generalize q / W = qd at *
      generalize q % W = qm at *
      omega
    subst e2
    refine h a q ha hq h0 h1 hr (.inr ⟨rfl, .inl ?_⟩)
    have : q / W < H := Nat.div_lt_of_lt_mul hq
    obtain ⟨-, -, -, h4⟩ := hr
    generalize q / W = qd at *
    generalize a / W = ad at *
    omega
theorem JoinI.none (h : JoinI W H r f0 f1 L p 0 0) (hf : f0 p < 0) : JoinI W H r f0 f1 L (p + 1) 0 0 := fun a q ha hq h0 h1 hr hc => by
  by_cases e : a < p
  · exact h a q ha hq h0 h1 hr (.inl e)
  · have e2 : a = p := by
      clear hr
      generalize q / W = qd at *
      generalize q % W = qm at *
      omega
    subst e2
    omega
theorem JoinI.near (h : JoinI W H r f0 f1 L (W * H) 0 0) : NearE W H r f0 f1 L := fun a q ha hq h0 h1 a1 a2 a3 a4 => h a q ha hq h0 h1 ⟨a1, a2, a3, a4⟩ (.inl ha)
end
/-- The kind of an event. -/
def kindZ (a b : Nat) : Int := if a = 0 then (if b = 0 then 0 else 2) else if a = 1 then (if b = 0 then 3 else if b = 1 then 4 else 5) else (if b = 0 then 3 else if b = 1 then 6 else 7)
theorem kind_kept {a b : Nat} : kindZ a b = 4 ↔ a = 1 ∧ b = 1 := by
  unfold kindZ
  by_cases a0 : a = 0
  · rw [if_pos a0]; split <;> omega
  · rw [if_neg a0]
    by_cases a1 : a = 1
    · rw [if_pos a1]
      by_cases b0 : b = 0
      · rw [if_pos b0]; omega
      · rw [if_neg b0]; split <;> omega
    · rw [if_neg a1]
      by_cases b0 : b = 0
      · rw [if_pos b0]; omega
      · rw [if_neg b0]; split <;> omega
theorem kind_bd (a b : Nat) : 0 ≤ kindZ a b ∧ kindZ a b ≤ 7 := by
  unfold kindZ
  repeat' split
  all_goals omega
theorem perm_get {α : Type} {l : List α} {k : Nat} {t : α} (h : l[k]? = some t) : l.Perm (t :: l.eraseIdx k) := by
  induction l generalizing k with
  | nil => simp at h
  | cons x l ih =>
    cases k with
    | zero => simp at h; subst h; exact List.Perm.refl _
    | succ k =>
      rw [List.getElem?_cons_succ] at h
      rw [List.eraseIdx_cons_succ]
      exact ((ih h).cons x).trans (List.Perm.swap _ _ _)
theorem perm_set {α : Type} {l : List α} {k : Nat} {t : α} (h : k < l.length) : (l.set k t).Perm (t :: l.eraseIdx k) := by
  have e : (l.set k t).eraseIdx k = l.eraseIdx k := by
    induction l generalizing k with
    | nil => rfl
    | cons x l ih =>
      cases k with
      | zero => rfl
      | succ k => rw [List.set_cons_succ, List.eraseIdx_cons_succ, List.eraseIdx_cons_succ, ih (by simpa using h)]
  have := perm_get (l := l.set k t) (k := k) (t := t) (List.getElem?_set_self h)
  rwa [e] at this
end Go.Proofs.Ytidbjidcjmbnlaa
end
section
namespace Go.Proofs.Ytidbjidcjmbnlaa

/-- What the sources yield: -1 ahead, if there are others, and the pixels in their order. -/
def srcL (W H : Nat) (c : Come) (p : Nat) : List Int := (if outB W H c p = true then [-1] else []) ++ ((List.range (W * H)).filter (srcB W H c p)).map fun q : Nat => (q : Int)
def okZ (f : Nat → Bool) (z : Int) : Bool := decide (0 ≤ z) && f z.toNat
theorem okZ_nat {f : Nat → Bool} {q : Nat} : okZ f (q : Int) = f q := by
  unfold okZ
  rw [decide_eq_true (Int.natCast_nonneg q), Bool.true_and]
  rfl
theorem okZ_neg {f : Nat → Bool} : okZ f (-1) = false := rfl
theorem src_all {W H p : Nat} {c : Come} {sure : Nat → Bool} : (srcL W H c p).all (okZ sure) = allB W H c sure p := by
  unfold srcL allB
  rw [List.all_append, List.all_map, List.all_filter]
  have e : ((List.range (W * H)).all fun x => !srcB W H c p x || ((okZ sure) ∘ fun q : Nat => (q : Int)) x) = (List.range (W * H)).all fun q => !srcB W H c p q || sure q := by
    refine congrArg _ (funext fun q => ?_)
    rw [Function.comp, okZ_nat]
  rw [e]
  cases outB W H c p with
  | true => rfl
  | false => rfl
theorem src_any {W H p : Nat} {c : Come} {may : Nat → Bool} : (srcL W H c p).any (okZ may) = someB W H c may p := by
  unfold srcL someB
  rw [List.any_append, List.any_map, List.any_filter]
  have e : ((List.range (W * H)).any fun x => srcB W H c p x && ((okZ may) ∘ fun q : Nat => (q : Int)) x) = (List.range (W * H)).any fun q => srcB W H c p q && may q := by
    refine congrArg _ (funext fun q => ?_)
    rw [Function.comp, okZ_nat]
  rw [e]
  cases outB W H c p with
  | true => rfl
  | false => rfl
theorem state_list {W H p : Nat} {c : Come} {sure may : Nat → Bool} : stateN W H c sure may p = if (srcL W H c p).all (okZ sure) = true then 2 else if (srcL W H c p).any (okZ may) = true then 1 else 0 := by
  rw [src_all, src_any]
  rfl
/-- A stop ahead of the end. -/
theorem state_stop {W H p : Nat} {c : Come} {sure may : Nat → Bool} {pre : List Int} (h : pre <+: srcL W H c p) (h1 : pre.all (okZ sure) = false) (h2 : pre.any (okZ may) = true) : stateN W H c sure may p = 1 := by
  obtain ⟨t, ht⟩ := h
  rw [state_list, ← ht, List.all_append, h1, List.any_append, h2]
  rfl
end Go.Proofs.Ytidbjidcjmbnlaa
end
section
namespace Go.Proofs.Ytidbjidcjmbnlaa

/-- What has been yielded ahead of pixel k. -/
def srcP (W H : Nat) (c : Come) (p k : Nat) : List Int := (if outB W H c p = true then [-1] else []) ++ ((List.range k).filter (srcB W H c p)).map fun q : Nat => (q : Int)
section
variable {W H p : Nat} {c : Come}
theorem srcP_full : srcP W H c p (W * H) = srcL W H c p := rfl
theorem srcP_zero : srcP W H c p 0 = if outB W H c p = true then [-1] else [] := by
  unfold srcP
  rw [List.range_zero, List.filter_nil, List.map_nil, List.append_nil]
theorem srcP_drop {k : Nat} (h : srcB W H c p k = false) : srcP W H c p (k + 1) = srcP W H c p k := by
  unfold srcP
  rw [List.range_succ, List.filter_append, List.filter_cons, h]
  simp
theorem srcP_take {k : Nat} (h : srcB W H c p k = true) : srcP W H c p (k + 1) = srcP W H c p k ++ [(k : Int)] := by
  unfold srcP
  rw [List.range_succ, List.filter_append, List.filter_cons, h]
  simp
theorem srcP_skip {a : Nat} : ∀ {b : Nat}, a ≤ b → (∀ q, a ≤ q → q < b → srcB W H c p q = false) → srcP W H c p b = srcP W H c p a
  | 0, h, _ => by rw [show a = 0 by omega]
  | b + 1, h, hs => by
    by_cases e : a = b + 1
    · rw [e]
    · rw [srcP_drop (hs b (by omega) (by omega))]
      exact srcP_skip (by omega) fun q h1 h2 => hs q h1 (by omega)
/-- The ends of columns and rows. -/
def ulI (W : Nat) (c : Come) (p : Nat) : Int := max 0 (((p % W : Nat) : Int) - c.rx)
def uhI (W : Nat) (c : Come) (p : Nat) : Int := min ((W : Int) - 1) (((p % W : Nat) : Int) - c.lx)
def vlI (W : Nat) (c : Come) (p : Nat) : Int := max 0 (((p / W : Nat) : Int) - c.ry)
def vhI (W H : Nat) (c : Come) (p : Nat) : Int := min ((H : Int) - 1) (((p / W : Nat) : Int) - c.ly)
theorem src_iff {q : Nat} (hW : 0 < W) : srcB W H c p q = true ↔ q < W * H ∧ ulI W c p ≤ (q % W : Nat) ∧ ((q % W : Nat) : Int) ≤ uhI W c p ∧ vlI W c p ≤ (q / W : Nat) ∧ ((q / W : Nat) : Int) ≤ vhI W H c p := by
  unfold srcB ulI uhI vlI vhI
  rw [decide_eq_true_iff]
  have h1 := Nat.mod_lt q hW
  have h2 : q < W * H → q / W < H := fun h => Nat.div_lt_of_lt_mul h
  generalize q % W = a at *
  generalize q / W = b at *
  generalize p % W = x at *
  generalize p / W = y at *
  constructor
  · rintro ⟨h, h3, h4, h5, h6⟩
    have := h2 h
    exact ⟨h, by omega, by omega, by omega, by omega⟩
  · rintro ⟨h, h3, h4, h5, h6⟩
    exact ⟨h, by omega, by omega, by omega, by omega⟩
theorem src_not {q : Nat} (hW : 0 < W) (h : ¬ (q < W * H ∧ ulI W c p ≤ (q % W : Nat) ∧ ((q % W : Nat) : Int) ≤ uhI W c p ∧ vlI W c p ≤ (q / W : Nat) ∧ ((q / W : Nat) : Int) ≤ vhI W H c p)) : srcB W H c p q = false := by
  cases e : srcB W H c p q with
  | false => rfl
  | true => exact absurd ((src_iff hW).1 e) h
theorem at_row {v u : Nat} (h : u < W) : (v * W + u) % W = u ∧ (v * W + u) / W = v := by
  constructor
  · rw [Nat.mul_comm, Nat.mul_add_mod, Nat.mod_eq_of_lt h]
  · rw [Nat.mul_comm, Nat.mul_add_div (by omega), Nat.div_eq_of_lt h, Nat.add_zero]
theorem in_row {v q : Nat} (h1 : v * W ≤ q) (h2 : q < (v + 1) * W) : ∃ u, u < W ∧ q = v * W + u := by
  rw [Nat.add_mul, Nat.one_mul] at h2
  exact ⟨q - v * W, by omega, by omega⟩
theorem src_start (hW : 0 < W) : srcP W H c p ((vlI W c p).toNat * W) = srcP W H c p 0 :=
  srcP_skip (Nat.zero_le _) fun q _ h => src_not hW fun ⟨_, _, _, h4, _⟩ => by
    have h5 : q / W < (vlI W c p).toNat := Nat.div_lt_of_lt_mul (by rw [Nat.mul_comm]; exact h)
    generalize q / W = d at *
    omega
theorem src_row {v : Nat} (hW : 0 < W) : srcP W H c p (v * W + min (ulI W c p).toNat W) = srcP W H c p (v * W) :=
  srcP_skip (Nat.le_add_right _ _) fun q h1 h2 => src_not hW fun ⟨_, h3, _⟩ => by
    obtain ⟨u, hu, rfl⟩ := in_row h1 (Nat.lt_of_lt_of_le h2 (by rw [Nat.add_mul, Nat.one_mul]; omega))
    rw [(at_row hu).1] at h3
    omega
theorem src_at {v u : Nat} (hW : 0 < W) (h1 : vlI W c p ≤ v) (h2 : (v : Int) ≤ vhI W H c p) (h3 : ulI W c p ≤ u) (h4 : (u : Int) ≤ uhI W c p) : u < W ∧ v < H ∧ v * W + u < W * H ∧ srcB W H c p (v * W + u) = true := by
  have hu : u < W := by unfold uhI at h4; omega
  have hv : v < H := by unfold vhI at h2; omega
  have hl : v * W + u < W * H := by
    have h := Nat.mul_le_mul_right W (show v + 1 ≤ H from hv)
    rw [Nat.add_mul, Nat.one_mul, Nat.mul_comm H W] at h
    omega
  refine ⟨hu, hv, hl, (src_iff hW).2 ?_⟩
  rw [(at_row hu).1, (at_row hu).2]
  exact ⟨hl, h3, h4, h1, h2⟩
theorem src_step {v u : Nat} (hW : 0 < W) (h1 : vlI W c p ≤ v) (h2 : (v : Int) ≤ vhI W H c p) (h3 : ulI W c p ≤ u) (h4 : (u : Int) ≤ uhI W c p) : srcP W H c p (v * W + min (u + 1) W) = srcP W H c p (v * W + min u W) ++ [((v * W + u : Nat) : Int)] := by
  obtain ⟨hu, -, -, hs⟩ := src_at hW h1 h2 h3 h4
  rw [show min (u + 1) W = u + 1 by omega, show min u W = u by omega, ← Nat.add_assoc]
  exact srcP_take hs
theorem src_next {v u : Nat} (hW : 0 < W) (h : uhI W c p < u) : srcP W H c p ((v + 1) * W) = srcP W H c p (v * W + min u W) :=
  srcP_skip (by rw [Nat.add_mul, Nat.one_mul]; omega) fun q h1 h2 => src_not hW fun ⟨_, _, h3, _⟩ => by
    obtain ⟨a, ha, rfl⟩ := in_row (by omega) h2
    rw [(at_row ha).1] at h3
    omega
theorem src_end {v : Nat} (hW : 0 < W) (h : vhI W H c p < v) : srcP W H c p (v * W) = srcL W H c p := by
  rw [← srcP_full]
  by_cases e : v ≤ H
  · refine (srcP_skip (by rw [Nat.mul_comm]; exact Nat.mul_le_mul_left _ e) fun q h1 h2 => src_not hW fun ⟨_, _, _, _, h5⟩ => ?_).symm
    have h6 : v ≤ q / W := (Nat.le_div_iff_mul_le hW).2 h1
    generalize q / W = d at *
    omega
  · refine srcP_skip (by rw [Nat.mul_comm]; exact Nat.mul_le_mul_right _ (by omega)) fun q h1 h2 => src_not hW fun ⟨h3, _⟩ => ?_
    omega
theorem srcP_mono {a b : Nat} (h : a ≤ b) : srcP W H c p a <+: srcP W H c p b := by
  obtain ⟨d, rfl⟩ := Nat.le.dest h
  unfold srcP
  rw [List.range_add, List.filter_append, List.map_append, ← List.append_assoc]
  exact ⟨_, rfl⟩
theorem srcP_le {k : Nat} (h : k ≤ W * H) : srcP W H c p k <+: srcL W H c p := srcP_mono h
theorem srcL_len : (srcL W H c p).length ≤ W * H + 1 := by
  unfold srcL
  rw [List.length_append, List.length_map]
  have h := List.length_filter_le (srcB W H c p) (List.range (W * H))
  rw [List.length_range] at h
  split <;> simp <;> omega
theorem srcP_room {k : Nat} (h : k < W * H) (hs : srcB W H c p k = true) : (srcP W H c p k).length < W * H + 1 := by
  have h1 := (srcP_le (c := c) (p := p) (show k + 1 ≤ W * H from h)).length_le
  have h2 := srcL_len (W := W) (H := H) (p := p) (c := c)
  rw [srcP_take hs, List.length_append, List.length_singleton] at h1
  omega
theorem srcL_at {k : Nat} (h : k < W * H) (hs : srcB W H c p k = true) : (k : Int) ∈ srcL W H c p :=
  List.mem_append_right _ (List.mem_map.2 ⟨k, List.mem_filter.2 ⟨List.mem_range.2 h, hs⟩, rfl⟩)
theorem srcL_out (h : outB W H c p = true) : (-1 : Int) ∈ srcL W H c p := by
  unfold srcL
  rw [h, if_pos rfl]
  exact List.mem_append_left _ List.mem_cons_self
theorem srcL_mem {z : Int} (h : z ∈ srcL W H c p) : z = -1 ∨ ∃ q : Nat, q < W * H ∧ z = q := by
  unfold srcL at h
  rcases List.mem_append.1 h with h | h
  · split at h
    · exact .inl (List.mem_singleton.1 h)
    · cases h
  · obtain ⟨q, hq, rfl⟩ := List.mem_map.1 h
    exact .inr ⟨q, List.mem_range.1 (List.mem_filter.1 hq).1, rfl⟩
theorem out_iff : outB W H c p = true ↔ ((p % W : Nat) : Int) - c.rx < 0 ∨ (W : Int) ≤ ((p % W : Nat) : Int) - c.lx ∨ ((p / W : Nat) : Int) - c.ry < 0 ∨ (H : Int) ≤ ((p / W : Nat) : Int) - c.ly := by
  unfold outB
  exact decide_eq_true_iff
end
end Go.Proofs.Ytidbjidcjmbnlaa
end
section
namespace Go.Proofs.Ytidbjidcjmbnlaa

theorem inj_le : ∀ (K' K : Nat) (g : Nat → Nat), (∀ i, i < K → g i < K') → (∀ i j, i < K → j < K → g i = g j → i = j) → K ≤ K'
  | 0, K, g, h, _ => by
    rcases Nat.eq_zero_or_pos K with e | e
    · omega
    · exact absurd (h 0 e) (Nat.not_lt_zero _)
  | K' + 1, 0, _, _, _ => Nat.zero_le _
  | K' + 1, k + 1, g, h, hi => by
    have := inj_le K' k (fun i => if g i = K' then g k else g i) (fun i hk => by
      have h1 := h i (by omega)
      have h2 := h k (by omega)
      by_cases e : g i = K'
      · rw [if_pos e]
        have : g k ≠ K' := fun e2 => by have := hi i k (by omega) (by omega) (e.trans e2.symm); omega
        omega
      · rw [if_neg e]; omega) (fun i j hk hj e => by
      by_cases e1 : g i = K' <;> by_cases e2 : g j = K'
      · exact hi i j (by omega) (by omega) (e1.trans e2.symm)
      · rw [if_pos e1, if_neg e2] at e
        have := hi k j (by omega) (by omega) e
        omega
      · rw [if_neg e1, if_pos e2] at e
        have := hi i k (by omega) (by omega) e
        omega
      · rw [if_neg e1, if_neg e2] at e
        exact hi i j (by omega) (by omega) e)
    omega
theorem areas_le {W H : Nat} {may in0 in1 : Nat → Bool} {f f' : Nat → Int} {pix pix' : List (List Nat)} {kern kern' : List (List (List Nat))} (A : AreasR W H may in0 f pix kern) (B : AreasR W H may in1 f' pix' kern') : pix.length ≤ pix'.length := by
  have hch : ∀ i, ∃ p, i < pix.length → p < W * H ∧ f p = i := fun i => by
    by_cases hi : i < pix.length
    · obtain ⟨p, hp⟩ := List.exists_mem_of_ne_nil _ (A.ne i hi)
      exact ⟨p, fun _ => (A.pixs i hi p).1 hp⟩
    · exact ⟨0, fun h => absurd h hi⟩
  obtain ⟨c, hc⟩ := Classical.axiomOfChoice hch
  have hb : ∀ i, i < pix.length → 0 ≤ f' (c i) ∧ f' (c i) < pix'.length := fun i hi => by
    obtain ⟨h1, h2⟩ := hc i hi
    have hm : may (c i) = true := by
      rcases A.part.lab (c i) h1 with h3 | ⟨-, -, h3⟩
      · omega
      · exact h3
    have h0 := B.all (c i) h1 hm
    rcases B.part.lab (c i) h1 with h3 | ⟨-, h3, -⟩
    · omega
    · exact ⟨h0, h3⟩
  refine inj_le _ _ (fun i => (f' (c i)).toNat) (fun i hi => by have := hb i hi; omega) (fun i j hi hj e => ?_)
  have hi2 := hb i hi
  have hj2 := hb j hj
  have e2 : f' (c i) = f' (c j) := by omega
  have h := kern_area (nb_ok W H) A.part A.all B.part (fun q _ hq => hq) (hc i hi).1 (hc j hj).1 hi2.1 e2
  rw [(hc i hi).2, (hc j hj).2] at h
  omega
theorem areas_count {W H : Nat} {may in0 in1 : Nat → Bool} {f f' : Nat → Int} {pix pix' : List (List Nat)} {kern kern' : List (List (List Nat))} (A : AreasR W H may in0 f pix kern) (B : AreasR W H may in1 f' pix' kern') : pix.length = pix'.length := Nat.le_antisymm (areas_le A B) (areas_le B A)
end Go.Proofs.Ytidbjidcjmbnlaa
end
