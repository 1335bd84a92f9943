/-
  Gains, in plain words: which tests count, and what they say together.
-/
import Derived.Test.YtiggefmckomilaaTraceBook
namespace Go.Proofs.Ytiggefmckomilaa
open Go Go.RowKit

/-- The tests, the oldest first, with the gain that followed from each. -/
def testInfo : List Ent → List (Tst × (Int × Int))
  | [] => []
  | .test t :: l => testInfo l ++ [(t, gainT l t)]
  | _ :: l => testInfo l
def testAll : List Ent → List Nat → List ((Tst × (Int × Int)) × Option Addr)
  | [], _ => []
  | .test t :: l, bs => testAll l bs ++ [((t, gainT l t), addrO (ptrT (stdsT l) bs t.std))]
  | .define _ :: l, bs => testAll l bs.tail
  | _ :: l, bs => testAll l bs
def cells8 (x : (Tst × (Int × Int)) × Option Addr) : List Value :=
  [.string x.1.1.radar, .string x.1.1.std, .int .i64 x.1.1.time, .int .i64 x.1.1.lo, .int .i64 x.1.1.hi, .pointer x.2, .int .i64 x.1.2.1, .int .i64 x.1.2.2]
theorem testRows_all : ∀ (l : List Ent) (bs : List Nat), testRows l bs = (testAll l bs).flatMap cells8
  | [], _ => rfl
  | .test t :: l, bs => by
    rw [testRows, testAll, testRows_all l bs, List.flatMap_append]
    simp [testC, cells8]
  | .define s :: l, bs => by rw [testRows, testAll]; exact testRows_all l _
  | .radar _ _ :: l, bs => by rw [testRows, testAll]; exact testRows_all l bs; all_goals (intro _ h; cases h)
  | .turn _ _ :: l, bs => by rw [testRows, testAll]; exact testRows_all l bs; all_goals (intro _ h; cases h)
theorem testAll_info : ∀ (l : List Ent) (bs : List Nat), (testAll l bs).map (·.1) = testInfo l
  | [], _ => rfl
  | .test t :: l, bs => by rw [testAll, testInfo, List.map_append, testAll_info l bs]; rfl
  | .define s :: l, bs => by rw [testAll, testInfo]; exact testAll_info l _; all_goals (intro _ h; cases h)
  | .radar _ _ :: l, bs => by rw [testAll, testInfo]; exact testAll_info l bs; all_goals (intro _ h; cases h)
  | .turn _ _ :: l, bs => by rw [testAll, testInfo]; exact testAll_info l bs; all_goals (intro _ h; cases h)
theorem testInfo_length : ∀ l : List Ent, (testInfo l).length = (testsT l).length
  | [] => rfl
  | .test t :: l => by simp [testInfo, testsT, testInfo_length l]
  | .define s :: l => testInfo_length l
  | .radar _ _ :: l => testInfo_length l
  | .turn _ _ :: l => testInfo_length l
theorem flatMap8_get {α : Type} (f : α → List Value) (hf : ∀ x, (f x).length = 8) : ∀ (xs : List α) (i j : Nat) (x : α), xs[i]? = some x → j < 8 → (xs.flatMap f)[i * 8 + j]? = (f x)[j]?
  | [], i, j, x, h, _ => by simp at h
  | y :: ys, 0, j, x, h, hj => by
    have e : y = x := by simpa using h
    subst e
    rw [List.flatMap_cons, Nat.zero_mul, Nat.zero_add, List.getElem?_append_left (by rw [hf]; exact hj)]
  | y :: ys, i + 1, j, x, h, hj => by
    rw [List.flatMap_cons, List.getElem?_append_right (by rw [hf]; omega), hf, show (i + 1) * 8 + j - 8 = i * 8 + j by omega]
    exact flatMap8_get f hf ys i j x (by simpa using h) hj
def numV (q : List (Nat × (Int × Int))) : List Value := q.map fun y => .int .i64 (y.1 : Int)
def spnV (q : List (Nat × (Int × Int))) : List Value := q.flatMap fun y => [.int .i64 y.2.1, .int .i64 y.2.2]
/-- A test as it is kept. -/
structure TestOk (t : Tst) (g : Int × Int) : Prop where
  t0 : 0 ≤ t.time
  t1 : t.time ≤ 4294967296
  g0 : 1 ≤ g.1
  g1 : g.1 ≤ 1000000000000
  g2 : 0 ≤ g.2
  g3 : g.2 ≤ 1000000000000
  sn : nameB t.std = true
theorem good_test : ∀ {l : List Ent}, GoodB l → ∀ x ∈ testInfo l, TestOk x.1 x.2
  | [], _, x, h => by cases h
  | .define s :: l, hg, x, h => good_test (l := l) hg.2 x h
  | .radar _ _ :: l, hg, x, h => good_test (l := l) hg.2 x h
  | .turn _ _ :: l, hg, x, h => good_test (l := l) hg.2 x h
  | .test t :: l, hg, x, h => by
    rw [testInfo] at h
    rcases List.mem_append.1 h with h | h
    · exact good_test (l := l) hg.2 x h
    · simp only [List.mem_singleton] at h
      subst h
      have he : testE l t = 0 := by have := hg.1; unfold okEnt at this; simpa using this
      unfold testE at he
      split at he
      · exact absurd he (by omega)
      split at he
      · rename_i d s hd hs
        split at he
        · exact absurd he (by omega)
        split at he
        · exact absurd he (by omega)
        rename_i h5
        split at he
        · exact absurd he (by omega)
        rename_i h6
        rw [Bool.not_eq_false, Bool.and_eq_true] at h5
        obtain ⟨k1, k2⟩ := h5
        obtain ⟨a1, a2⟩ := inR_iff.1 k1
        obtain ⟨b1, b2, b3⟩ := inS_iff.1 k2
        obtain ⟨hq, hqn, hqm⟩ := good_std hg.2 hs
        have hvb := widenS_bd (s := madeT l s.name) (d := s.drift) (f := s.time) (t := t.time) hq.d0 hq.d1 hq.t0 (by have := hq.t1; have := hq.t2; omega) a1 a2 (by rw [hqn]; exact hqm.2.1) (by rw [hqn]; have := hqm.1; have := hqm.2.1; omega)
        have hG : gainT l t = (max 1 (1000 * t.lo / (valueT l s t.time).2), upD (1000 * t.hi) (valueT l s t.time).1) := by unfold gainT; rw [hs]
        unfold valueT at hG
        obtain ⟨d1, d2, -⟩ := div_bd (a := 1000 * t.lo) (b := (widenS (madeT l s.name) s.drift s.time t.time).2) (by omega) (by omega)
        obtain ⟨u1, u2, -, -⟩ := upD_bd (a := 1000 * t.hi) (b := (widenS (madeT l s.name) s.drift s.time t.time).1) (by omega) (by omega)
        simp only
        rw [hG]
        exact ⟨a1, a2, by simp only; omega, by simp only; omega, u1, by simp only; omega, by rw [← hqn]; exact hq.name⟩
      · exact absurd he (by omega)
/-- The tests that count, of the first ones: their numbers, and their spans. -/
def selN (T : List (Tst × (Int × Int))) (n : ByteArray) (vd : ByteArray → Bool) (d time : Int) : Nat → List (Nat × (Int × Int))
  | 0 => []
  | i + 1 => selN T n vd d time i ++ match T[i]? with
    | some x => if x.1.radar = n ∧ vd x.1.std = false then [(i, widenS x.2 d x.1.time time)] else []
    | none => []
theorem selN_length (T : List (Tst × (Int × Int))) (n : ByteArray) (vd : ByteArray → Bool) (d time : Int) : ∀ i, (selN T n vd d time i).length ≤ i
  | 0 => Nat.le_refl _
  | i + 1 => by
    have := selN_length T n vd d time i
    rw [selN, List.length_append]
    split
    · split <;> simp <;> omega
    · simp; omega
/-- The first pair of spans that have nothing in common, from a place on. -/
def offB (x y : Int × Int) : Bool := decide (y.2 < x.1) || decide (x.2 < y.1)
def rowF (cf : Nat → Nat → Bool) (i : Nat) : Nat → Nat → Option Nat
  | _, 0 => none
  | j, m + 1 => if cf i j = true then some j else rowF cf i (j + 1) m
def findF (cf : Nat → Nat → Bool) (n : Nat) : Nat → Nat → Option (Nat × Nat)
  | _, 0 => none
  | i, m + 1 => match rowF cf i (i + 1) (n - (i + 1)) with
    | some j => some (i, j)
    | none => findF cf n (i + 1) m
theorem row_hit {cf : Nat → Nat → Bool} {i j n : Nat} (hj : j < n) (h : cf i j = true) : rowF cf i j (n - j) = some j := by
  rw [show n - j = (n - (j + 1)) + 1 by omega, rowF, if_pos h]
theorem row_miss {cf : Nat → Nat → Bool} {i j n : Nat} (hj : j < n) (h : cf i j = false) : rowF cf i j (n - j) = rowF cf i (j + 1) (n - (j + 1)) := by
  rw [show n - j = (n - (j + 1)) + 1 by omega, rowF, if_neg (by rw [h]; simp)]
theorem find_hit {cf : Nat → Nat → Bool} {i j n : Nat} (hi : i < n) (h : rowF cf i (i + 1) (n - (i + 1)) = some j) : findF cf n i (n - i) = some (i, j) := by
  have e : n - i = (n - (i + 1)) + 1 := by omega
  rw [e, findF, h]
theorem find_miss {cf : Nat → Nat → Bool} {i n : Nat} (hi : i < n) (h : rowF cf i (i + 1) (n - (i + 1)) = none) : findF cf n i (n - i) = findF cf n (i + 1) (n - (i + 1)) := by
  have e : n - i = (n - (i + 1)) + 1 := by omega
  rw [e, findF, h]
def atOf (q : List (Nat × (Int × Int))) : Option (Nat × Nat) → Int × Int
  | some p => ((q.getD p.1 (0, (0, 0))).1, (q.getD p.2 (0, (0, 0))).1)
  | none => (0, 0)
def offQ (q : List (Nat × (Int × Int))) (i j : Nat) : Bool := offB (q.getD i (0, (0, 0))).2 (q.getD j (0, (0, 0))).2
/-- What spans have in common. -/
def meetQ (q : List (Nat × (Int × Int))) : Nat → Int × Int
  | 0 => (q.getD 0 (0, (0, 0))).2
  | k + 1 => (max (meetQ q k).1 (q.getD k (0, (0, 0))).2.1, min (meetQ q k).2 (q.getD k (0, (0, 0))).2.2)
def gainQ (q : List (Nat × (Int × Int))) : (Int × Int) × (Int × Int) × Int :=
  if q.length = 0 then ((0, 0), (0, 0), 18)
  else if (meetQ q q.length).1 ≤ (meetQ q q.length).2 then (meetQ q q.length, (0, 0), 0)
  else ((0, 0), atOf q (findF (offQ q) q.length 0 q.length), 14)
def gainE (l : List Ent) (n : ByteArray) (time : Int) : (Int × Int) × (Int × Int) × Int := match driftT l n with
  | none => ((0, 0), (0, 0), 4)
  | some d => if inR time 0 4294967296 = false then ((0, 0), (0, 0), 3) else gainQ (selN (testInfo l) n (voidT l) d time (testsT l).length)
theorem tests_le : ∀ {l : List Ent}, GoodB l → (testsT l).length ≤ 512
  | [], _ => by simp [testsT]
  | .define s :: l, hg => tests_le (l := l) hg.2
  | .radar _ _ :: l, hg => tests_le (l := l) hg.2
  | .turn _ _ :: l, hg => tests_le (l := l) hg.2
  | .test t :: l, hg => by
    have he : testE l t = 0 := by have := hg.1; unfold okEnt at this; simpa using this
    unfold testE at he
    split at he
    · exact absurd he (by omega)
    split at he
    · split at he
      · exact absurd he (by omega)
      · simp only [testsT, List.length_cons]; omega
    · exact absurd he (by omega)
theorem drift_bd : ∀ {l : List Ent} {n : ByteArray} {d : Int}, GoodB l → driftT l n = some d → 0 ≤ d ∧ d ≤ 1000000
  | [], _, _, _, h => by cases h
  | .define s :: l, _, _, hg, h => drift_bd (l := l) hg.2 h
  | .test t :: l, _, _, hg, h => drift_bd (l := l) hg.2 h
  | .turn _ _ :: l, _, _, hg, h => drift_bd (l := l) hg.2 h
  | .radar m e :: l, n, d, hg, h => by
    rw [driftT] at h
    split at h
    · have he : radarE l m e = 0 := by have := hg.1; unfold okEnt at this; simpa using this
      obtain rfl := Option.some.inj h
      unfold radarE at he
      split at he
      · exact absurd he (by omega)
      split at he
      · exact absurd he (by omega)
      split at he
      · exact absurd he (by omega)
      split at he
      · exact absurd he (by omega)
      split at he
      · exact absurd he (by omega)
      rename_i h5
      exact inR_iff.1 (by simpa using h5)
    · exact drift_bd (l := l) hg.2 h
theorem rows_pt {w : World} {e : TypeId} {n c : Nat} {A : Option Addr} {X : List ((Tst × (Int × Int)) × Option Addr)} (h : w.ownsRow 0 e 8 (.slice A n c) n (X.flatMap cells8)) (hn : 0 < n) :
    ∃ b, A = some ⟨b, 0, none⟩ ∧ b < w.heap.size ∧ (Value.slice A n c).ownBlock = some b ∧ ∀ (i : Nat) (x : (Tst × (Int × Int)) × Option Addr), X[i]? = some x → ∀ (j : Nat) (u : Value), j < 8 → (cells8 x)[j]? = some u → w.cell? ⟨b, i * 8 + j, none⟩ = some u := by
  have h0 := h
  rcases h.2 with ⟨hv, h1⟩ | ⟨g, cap, cur, hv, _, hg, _⟩
  · omega
  · have hA : A = some ⟨g, 0, none⟩ := by injection hv
    subst hA
    have hlt := (h0.lt g rfl).2
    refine ⟨g, rfl, hlt, rfl, fun i x hx j u hj hu => ?_⟩
    have := h0.cells (g := g) rfl (i * 8 + j) u (by rw [flatMap8_get cells8 (fun _ => rfl) X i j x hx hj]; exact hu)
    rwa [show (⟨g, 0, none⟩ : Addr).add (i * 8 + j) = ⟨g, i * 8 + j, none⟩ by unfold Addr.add; split <;> simp_all] at this
theorem row_blk {w : World} {base : Nat} {e : TypeId} {size n c : Nat} {A : Option Addr} {xs : List Value} (h : w.ownsRow base e size (.slice A n c) n xs) (hn : 0 < n) :
    ∃ b cur, A = some ⟨b, 0, none⟩ ∧ base ≤ b ∧ Blk w b e cur ∧ n ≤ c ∧ c ≤ maxLen ∧ ∀ (i : Nat) (u : Value), xs[i]? = some u → cur[i]? = some u := by
  rcases h.2 with ⟨hv, h1⟩ | ⟨g, cap, cur, hv, hb, hg, h3, h4, h5, h6⟩
  · omega
  · injection hv with e1 e2 e3
    subst e1
    subst e3
    refine ⟨g, cur, rfl, hb, hg, h3, h4, fun i u hu => ?_⟩
    rw [← h6, List.getElem?_take] at hu
    split at hu
    · simpa using hu
    · cases hu
theorem numV_get {q : List (Nat × (Int × Int))} {i : Nat} (h : i < q.length) : (numV q)[i]? = some (.int .i64 ((q.getD i (0, (0, 0))).1 : Int)) := by
  unfold numV
  rw [List.getElem?_map, List.getElem?_eq_getElem h]
  simp [List.getD, List.getElem?_eq_getElem h]
theorem spnV_get : ∀ (q : List (Nat × (Int × Int))) (i : Nat), i < q.length → (spnV q)[i * 2]? = some (.int .i64 (q.getD i (0, (0, 0))).2.1) ∧ (spnV q)[i * 2 + 1]? = some (.int .i64 (q.getD i (0, (0, 0))).2.2)
  | [], i, h => absurd h (by simp)
  | y :: q, 0, _ => ⟨rfl, rfl⟩
  | y :: q, i + 1, h => by
    have := spnV_get q i (by simpa using h)
    have e : spnV (y :: q) = [.int .i64 y.2.1, .int .i64 y.2.2] ++ spnV q := rfl
    rw [e, show (i + 1) * 2 = i * 2 + 2 by omega]
    exact this
theorem gainQ_empty {q : List (Nat × (Int × Int))} (h : q.length = 0) : gainQ q = ((0, 0), (0, 0), 18) := by unfold gainQ; rw [if_pos h]
theorem gainQ_meet {q : List (Nat × (Int × Int))} (h : q.length ≠ 0) (h2 : (meetQ q q.length).1 ≤ (meetQ q q.length).2) : gainQ q = (meetQ q q.length, (0, 0), 0) := by unfold gainQ; rw [if_neg h, if_pos h2]
theorem gainQ_off {q : List (Nat × (Int × Int))} (h : q.length ≠ 0) (h2 : ¬ (meetQ q q.length).1 ≤ (meetQ q q.length).2) : gainQ q = ((0, 0), atOf q (findF (offQ q) q.length 0 q.length), 14) := by unfold gainQ; rw [if_neg h, if_neg h2]
end Go.Proofs.Ytiggefmckomilaa
