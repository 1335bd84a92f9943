/-
  Gains, in plain words: which tests count, and what they say together.
  A region whose last operations wait for all others: they may be cut off, and are then walked in their order. (They may write what the others have read.)
-/
import Derived.Test.YtiggefmckomilaaTracePush
import Derived.Tactics
set_option linter.unusedSimpArgs false
set_option linter.unusedVariables false
namespace Go.Proofs.Ytiggefmckomilaa
open Go Go.RowKit

/-- The tests, the oldest first, with the gain that followed from each. -/
def testInfo : List Ent → List (Tst × (Int × Int))
  | [] => []
  | .test t :: l => testInfo l ++ [(t, gainT l t)]
  | _ :: l => testInfo l
def testAll : List Ent → List Nat → List ((Tst × (Int × Int)) × Option Addr)
  | [], _ => []
  | .test t :: l, bs => testAll l bs ++ [((t, gainT l t), addrO (ptrT (stdsT l) bs t.std))]
  | .define _ :: l, bs => testAll l bs.tail
  | _ :: l, bs => testAll l bs
def cells8 (x : (Tst × (Int × Int)) × Option Addr) : List Value :=
  [.string x.1.1.radar, .string x.1.1.std, .int .i64 x.1.1.time, .int .i64 x.1.1.lo, .int .i64 x.1.1.hi, .pointer x.2, .int .i64 x.1.2.1, .int .i64 x.1.2.2]
theorem testRows_all : ∀ (l : List Ent) (bs : List Nat), testRows l bs = (testAll l bs).flatMap cells8
  | [], _ => rfl
  | .test t :: l, bs => by
    rw [testRows, testAll, testRows_all l bs, List.flatMap_append]
    simp [testC, cells8]
  | .define s :: l, bs => by rw [testRows, testAll]; exact testRows_all l _
  | .radar _ _ :: l, bs => by rw [testRows, testAll]; exact testRows_all l bs; all_goals (intro _ h; cases h)
  | .turn _ _ :: l, bs => by rw [testRows, testAll]; exact testRows_all l bs; all_goals (intro _ h; cases h)
theorem testAll_info : ∀ (l : List Ent) (bs : List Nat), (testAll l bs).map (·.1) = testInfo l
  | [], _ => rfl
  | .test t :: l, bs => by rw [testAll, testInfo, List.map_append, testAll_info l bs]; rfl
  | .define s :: l, bs => by rw [testAll, testInfo]; exact testAll_info l _; all_goals (intro _ h; cases h)
  | .radar _ _ :: l, bs => by rw [testAll, testInfo]; exact testAll_info l bs; all_goals (intro _ h; cases h)
  | .turn _ _ :: l, bs => by rw [testAll, testInfo]; exact testAll_info l bs; all_goals (intro _ h; cases h)
theorem testInfo_length : ∀ l : List Ent, (testInfo l).length = (testsT l).length
  | [] => rfl
  | .test t :: l => by simp [testInfo, testsT, testInfo_length l]
  | .define s :: l => testInfo_length l
  | .radar _ _ :: l => testInfo_length l
  | .turn _ _ :: l => testInfo_length l
theorem flatMap8_get {α : Type} (f : α → List Value) (hf : ∀ x, (f x).length = 8) : ∀ (xs : List α) (i j : Nat) (x : α), xs[i]? = some x → j < 8 → (xs.flatMap f)[i * 8 + j]? = (f x)[j]?
  | [], i, j, x, h, _ => by simp at h
  | y :: ys, 0, j, x, h, hj => by
    have e : y = x := by simpa using h
    subst e
    rw [List.flatMap_cons, Nat.zero_mul, Nat.zero_add, List.getElem?_append_left (by rw [hf]; exact hj)]
  | y :: ys, i + 1, j, x, h, hj => by
    rw [List.flatMap_cons, List.getElem?_append_right (by rw [hf]; omega), hf, show (i + 1) * 8 + j - 8 = i * 8 + j by omega]
    exact flatMap8_get f hf ys i j x (by simpa using h) hj
def numV (q : List (Nat × (Int × Int))) : List Value := q.map fun y => .int .i64 (y.1 : Int)
def spnV (q : List (Nat × (Int × Int))) : List Value := q.flatMap fun y => [.int .i64 y.2.1, .int .i64 y.2.2]
/-- A test as it is kept. -/
structure TestOk (t : Tst) (g : Int × Int) : Prop where
  t0 : 0 ≤ t.time
  t1 : t.time ≤ 4294967296
  g0 : 1 ≤ g.1
  g1 : g.1 ≤ 1000000000000
  g2 : 0 ≤ g.2
  g3 : g.2 ≤ 1000000000000
  sn : nameB t.std = true
theorem good_test : ∀ {l : List Ent}, GoodB l → ∀ x ∈ testInfo l, TestOk x.1 x.2
  | [], _, x, h => by cases h
  | .define s :: l, hg, x, h => good_test (l := l) hg.2 x h
  | .radar _ _ :: l, hg, x, h => good_test (l := l) hg.2 x h
  | .turn _ _ :: l, hg, x, h => good_test (l := l) hg.2 x h
  | .test t :: l, hg, x, h => by
    rw [testInfo] at h
    rcases List.mem_append.1 h with h | h
    · exact good_test (l := l) hg.2 x h
    · simp only [List.mem_singleton] at h
      subst h
      have he : testE l t = 0 := by have := hg.1; unfold okEnt at this; simpa using this
      unfold testE at he
      split at he
      · exact absurd he (by omega)
      split at he
      · rename_i d s hd hs
        split at he
        · exact absurd he (by omega)
        split at he
        · exact absurd he (by omega)
        rename_i h5
        split at he
        · exact absurd he (by omega)
        rename_i h6
        rw [Bool.not_eq_false, Bool.and_eq_true] at h5
        obtain ⟨k1, k2⟩ := h5
        obtain ⟨a1, a2⟩ := inR_iff.1 k1
        obtain ⟨b1, b2, b3⟩ := inS_iff.1 k2
        obtain ⟨hq, hqn, hqm⟩ := good_std hg.2 hs
        have hvb := widenS_bd (s := madeT l s.name) (d := s.drift) (f := s.time) (t := t.time) hq.d0 hq.d1 hq.t0 (by have := hq.t1; have := hq.t2; omega) a1 a2 (by rw [hqn]; exact hqm.2.1) (by rw [hqn]; have := hqm.1; have := hqm.2.1; omega)
        have hG : gainT l t = (max 1 (1000 * t.lo / (valueT l s t.time).2), upD (1000 * t.hi) (valueT l s t.time).1) := by unfold gainT; rw [hs]
        unfold valueT at hG
        obtain ⟨d1, d2, -⟩ := div_bd (a := 1000 * t.lo) (b := (widenS (madeT l s.name) s.drift s.time t.time).2) (by omega) (by omega)
        obtain ⟨u1, u2, -, -⟩ := upD_bd (a := 1000 * t.hi) (b := (widenS (madeT l s.name) s.drift s.time t.time).1) (by omega) (by omega)
        simp only
        rw [hG]
        exact ⟨a1, a2, by simp only; omega, by simp only; omega, u1, by simp only; omega, by rw [← hqn]; exact hq.name⟩
      · exact absurd he (by omega)
/-- The tests that count, of the first ones: their numbers, and their spans. -/
def selN (T : List (Tst × (Int × Int))) (n : ByteArray) (vd : ByteArray → Bool) (d time : Int) : Nat → List (Nat × (Int × Int))
  | 0 => []
  | i + 1 => selN T n vd d time i ++ match T[i]? with
    | some x => if x.1.radar = n ∧ vd x.1.std = false then [(i, widenS x.2 d x.1.time time)] else []
    | none => []
theorem selN_length (T : List (Tst × (Int × Int))) (n : ByteArray) (vd : ByteArray → Bool) (d time : Int) : ∀ i, (selN T n vd d time i).length ≤ i
  | 0 => Nat.le_refl _
  | i + 1 => by
    have := selN_length T n vd d time i
    rw [selN, List.length_append]
    split
    · split <;> simp <;> omega
    · simp; omega
/-- The first pair of spans that have nothing in common, from a place on. -/
def offB (x y : Int × Int) : Bool := decide (y.2 < x.1) || decide (x.2 < y.1)
def rowF (cf : Nat → Nat → Bool) (i : Nat) : Nat → Nat → Option Nat
  | _, 0 => none
  | j, m + 1 => if cf i j = true then some j else rowF cf i (j + 1) m
def findF (cf : Nat → Nat → Bool) (n : Nat) : Nat → Nat → Option (Nat × Nat)
  | _, 0 => none
  | i, m + 1 => match rowF cf i (i + 1) (n - (i + 1)) with
    | some j => some (i, j)
    | none => findF cf n (i + 1) m
theorem row_hit {cf : Nat → Nat → Bool} {i j n : Nat} (hj : j < n) (h : cf i j = true) : rowF cf i j (n - j) = some j := by
  rw [show n - j = (n - (j + 1)) + 1 by omega, rowF, if_pos h]
theorem row_miss {cf : Nat → Nat → Bool} {i j n : Nat} (hj : j < n) (h : cf i j = false) : rowF cf i j (n - j) = rowF cf i (j + 1) (n - (j + 1)) := by
  rw [show n - j = (n - (j + 1)) + 1 by omega, rowF, if_neg (by rw [h]; simp)]
theorem find_hit {cf : Nat → Nat → Bool} {i j n : Nat} (hi : i < n) (h : rowF cf i (i + 1) (n - (i + 1)) = some j) : findF cf n i (n - i) = some (i, j) := by
  have e : n - i = (n - (i + 1)) + 1 := by omega
  rw [e, findF, h]
theorem find_miss {cf : Nat → Nat → Bool} {i n : Nat} (hi : i < n) (h : rowF cf i (i + 1) (n - (i + 1)) = none) : findF cf n i (n - i) = findF cf n (i + 1) (n - (i + 1)) := by
  have e : n - i = (n - (i + 1)) + 1 := by omega
  rw [e, findF, h]
def atOf (q : List (Nat × (Int × Int))) : Option (Nat × Nat) → Int × Int
  | some p => ((q.getD p.1 (0, (0, 0))).1, (q.getD p.2 (0, (0, 0))).1)
  | none => (0, 0)
def offQ (q : List (Nat × (Int × Int))) (i j : Nat) : Bool := offB (q.getD i (0, (0, 0))).2 (q.getD j (0, (0, 0))).2
/-- What spans have in common. -/
def meetQ (q : List (Nat × (Int × Int))) : Nat → Int × Int
  | 0 => (q.getD 0 (0, (0, 0))).2
  | k + 1 => (max (meetQ q k).1 (q.getD k (0, (0, 0))).2.1, min (meetQ q k).2 (q.getD k (0, (0, 0))).2.2)
def gainQ (q : List (Nat × (Int × Int))) : (Int × Int) × (Int × Int) × Int :=
  if q.length = 0 then ((0, 0), (0, 0), 18)
  else if (meetQ q q.length).1 ≤ (meetQ q q.length).2 then (meetQ q q.length, (0, 0), 0)
  else ((0, 0), atOf q (findF (offQ q) q.length 0 q.length), 14)
def gainE (l : List Ent) (n : ByteArray) (time : Int) : (Int × Int) × (Int × Int) × Int := match driftT l n with
  | none => ((0, 0), (0, 0), 4)
  | some d => if inR time 0 4294967296 = false then ((0, 0), (0, 0), 3) else gainQ (selN (testInfo l) n (voidT l) d time (testsT l).length)
theorem tests_le : ∀ {l : List Ent}, GoodB l → (testsT l).length ≤ 512
  | [], _ => by simp [testsT]
  | .define s :: l, hg => tests_le (l := l) hg.2
  | .radar _ _ :: l, hg => tests_le (l := l) hg.2
  | .turn _ _ :: l, hg => tests_le (l := l) hg.2
  | .test t :: l, hg => by
    have he : testE l t = 0 := by have := hg.1; unfold okEnt at this; simpa using this
    unfold testE at he
    split at he
    · exact absurd he (by omega)
    split at he
    · split at he
      · exact absurd he (by omega)
      · simp only [testsT, List.length_cons]; omega
    · exact absurd he (by omega)
theorem drift_bd : ∀ {l : List Ent} {n : ByteArray} {d : Int}, GoodB l → driftT l n = some d → 0 ≤ d ∧ d ≤ 1000000
  | [], _, _, _, h => by cases h
  | .define s :: l, _, _, hg, h => drift_bd (l := l) hg.2 h
  | .test t :: l, _, _, hg, h => drift_bd (l := l) hg.2 h
  | .turn _ _ :: l, _, _, hg, h => drift_bd (l := l) hg.2 h
  | .radar m e :: l, n, d, hg, h => by
    rw [driftT] at h
    split at h
    · have he : radarE l m e = 0 := by have := hg.1; unfold okEnt at this; simpa using this
      obtain rfl := Option.some.inj h
      unfold radarE at he
      split at he
      · exact absurd he (by omega)
      split at he
      · exact absurd he (by omega)
      split at he
      · exact absurd he (by omega)
      split at he
      · exact absurd he (by omega)
      split at he
      · exact absurd he (by omega)
      rename_i h5
      exact inR_iff.1 (by simpa using h5)
    · exact drift_bd (l := l) hg.2 h
theorem rows_pt {w : World} {e : TypeId} {n c : Nat} {A : Option Addr} {X : List ((Tst × (Int × Int)) × Option Addr)} (h : w.ownsRow 0 e 8 (.slice A n c) n (X.flatMap cells8)) (hn : 0 < n) :
    ∃ b, A = some ⟨b, 0, none⟩ ∧ b < w.heap.size ∧ (Value.slice A n c).ownBlock = some b ∧ ∀ (i : Nat) (x : (Tst × (Int × Int)) × Option Addr), X[i]? = some x → ∀ (j : Nat) (u : Value), j < 8 → (cells8 x)[j]? = some u → w.cell? ⟨b, i * 8 + j, none⟩ = some u := by
  have h0 := h
  rcases h.2 with ⟨hv, h1⟩ | ⟨g, cap, cur, hv, _, hg, _⟩
  · omega
  · have hA : A = some ⟨g, 0, none⟩ := by injection hv
    subst hA
    have hlt := (h0.lt g rfl).2
    refine ⟨g, rfl, hlt, rfl, fun i x hx j u hj hu => ?_⟩
    have := h0.cells (g := g) rfl (i * 8 + j) u (by rw [flatMap8_get cells8 (fun _ => rfl) X i j x hx hj]; exact hu)
    rwa [show (⟨g, 0, none⟩ : Addr).add (i * 8 + j) = ⟨g, i * 8 + j, none⟩ by unfold Addr.add; split <;> simp_all] at this
theorem row_blk {w : World} {base : Nat} {e : TypeId} {size n c : Nat} {A : Option Addr} {xs : List Value} (h : w.ownsRow base e size (.slice A n c) n xs) (hn : 0 < n) :
    ∃ b cur, A = some ⟨b, 0, none⟩ ∧ base ≤ b ∧ Blk w b e cur ∧ n ≤ c ∧ c ≤ maxLen ∧ ∀ (i : Nat) (u : Value), xs[i]? = some u → cur[i]? = some u := by
  rcases h.2 with ⟨hv, h1⟩ | ⟨g, cap, cur, hv, hb, hg, h3, h4, h5, h6⟩
  · omega
  · injection hv with e1 e2 e3
    subst e1
    subst e3
    refine ⟨g, cur, rfl, hb, hg, h3, h4, fun i u hu => ?_⟩
    rw [← h6, List.getElem?_take] at hu
    split at hu
    · simpa using hu
    · cases hu
theorem numV_get {q : List (Nat × (Int × Int))} {i : Nat} (h : i < q.length) : (numV q)[i]? = some (.int .i64 ((q.getD i (0, (0, 0))).1 : Int)) := by
  unfold numV
  rw [List.getElem?_map, List.getElem?_eq_getElem h]
  simp [List.getD, List.getElem?_eq_getElem h]
theorem spnV_get : ∀ (q : List (Nat × (Int × Int))) (i : Nat), i < q.length → (spnV q)[i * 2]? = some (.int .i64 (q.getD i (0, (0, 0))).2.1) ∧ (spnV q)[i * 2 + 1]? = some (.int .i64 (q.getD i (0, (0, 0))).2.2)
  | [], i, h => absurd h (by simp)
  | y :: q, 0, _ => ⟨rfl, rfl⟩
  | y :: q, i + 1, h => by
    have := spnV_get q i (by simpa using h)
    have e : spnV (y :: q) = [.int .i64 y.2.1, .int .i64 y.2.2] ++ spnV q := rfl
    rw [e, show (i + 1) * 2 = i * 2 + 2 by omega]
    exact this
theorem gainQ_empty {q : List (Nat × (Int × Int))} (h : q.length = 0) : gainQ q = ((0, 0), (0, 0), 18) := by unfold gainQ; rw [if_pos h]
theorem gainQ_meet {q : List (Nat × (Int × Int))} (h : q.length ≠ 0) (h2 : (meetQ q q.length).1 ≤ (meetQ q q.length).2) : gainQ q = (meetQ q q.length, (0, 0), 0) := by unfold gainQ; rw [if_neg h, if_pos h2]
theorem gainQ_off {q : List (Nat × (Int × Int))} (h : q.length ≠ 0) (h2 : ¬ (meetQ q q.length).1 ≤ (meetQ q q.length).2) : gainQ q = ((0, 0), atOf q (findF (offQ q) q.length 0 q.length), 14) := by unfold gainQ; rw [if_neg h, if_neg h2]
end Go.Proofs.Ytiggefmckomilaa
namespace Go.Proofs.Ytiggefmckomilaa
open Go Go.RowKit

section
variable {P : Program} {lops : List Oper} {an : List (List Nat)} {m1 m2 : List Bool} {st : List St} {w0 : World} {a0 : Act} {shape : Nat → Par → Value} {wr : Nat → Nat → Prop} {R : Nat → (Nat → Par) → (Nat → Prop) → World → Prop}
theorem any_region_XA {Q : Exit → Act → World → Prop} {b af : (Nat → Par) → Act} (an : List (List Nat)) (m1 m2 : List Bool) (st : List St) (shape : Nat → Par → Value) (wr : Nat → Nat → Prop) (R : Nat → (Nat → Par) → (Nat → Prop) → World → Prop) (S1 S2 : Nat → Prop)
    (hb : regB .any lops an m1 m2 st = true)
    (hS1 : ∀ k, S1 k → k < w0.heap.size ∧ ∀ i, m1.getD i false = true → Eb an st wr i k) (hS2 : ∀ k, S2 k → k < w0.heap.size ∧ ∀ i, m2.getD i false = true → Eb an st wr i k)
    (hwl : ∀ s ∈ st, ∀ k, wr s.i k → k < w0.heap.size) (hwr : ∀ s ∈ st, ∀ s' ∈ st, s.i ≠ s'.i → ∀ k, wr s.i k → ¬ wr s'.i k)
    (hq1 : ∀ x D, Good S1 w0 D → wpQuiet P lops.toArray (fun w' => ∃ y : Of D, w' = y.val) (fun a' => a' = b x) (takeOps m1 lops) (putH shape x lops st a0))
    (hq2 : ∀ x D, Good S2 w0 D → wpQuiet P lops.toArray (fun w' => ∃ y : Of D, w' = y.val) (fun a' => a' = af x) (takeOps m2 lops) (b x))
    {ds : List Tmp} (hds : slotsB m1 m2 lops ds = true) (hcall : ∀ d ∈ ds, ∀ x x', (af x).tmps.getD d undef = (af x').tmps.getD d undef)
    (hob : obls P lops an st wr w0 af shape R st) (how : owes R st)
    (hfin : ∀ x w F, Kept (fun k => k < w0.heap.size ∧ ∀ s ∈ st, ¬ wr s.i k) w0 w → lives st R x F w st → Aparts st F → Q .normal (af x) w) :
    wpAny P .any lops.toArray Q lops.toArray.size (Array.replicate lops.toArray.size false) a0 { w0 with drawn := w0.drawn + 1 } := by
  have hk := chk_of hb
  have hok := of_walks hk hS1 hS2 hq1 hq2 hds hcall
  have ob : ∀ (l : List St), obls P lops an st wr w0 af shape R l → ∀ s ∈ l, Obl P lops an st wr w0 af shape R s := fun l => by
    induction l with
    | nil => intro _ s hs; cases hs
    | cons a l ih =>
      intro h s hs
      rcases List.mem_cons.1 hs with rfl | hs
      · exact h.1
      · exact ih h.2 s hs
  have ow : ∀ (l : List St), owes R l → ∀ s ∈ l, Owes R s := fun l => by
    induction l with
    | nil => intro _ s hs; cases hs
    | cons a l ih =>
      intro h s hs
      rcases List.mem_cons.1 hs with rfl | hs
      · exact h.1
      · exact ih h.2 s hs
  have lv : ∀ x w F (l : List St), (∀ s ∈ l, (∀ s' ∈ st, s'.tgt ≠ some s.i) → R s.i x (F s.i) w) → lives st R x F w l := fun x w F l => by
    induction l with
    | nil => intro _; trivial
    | cons a l ih =>
      intro h
      refine ⟨fun hl => h a List.mem_cons_self fun s' hs' ht => ?_, ih fun s hs => h s (List.mem_cons_of_mem _ hs)⟩
      have := List.all_eq_true.1 hl s' hs'
      rw [ht] at this
      simp at this
  refine (anyX hk hok (ob st hob) (fun s hs => (ow st how s hs).1) (fun s hs => (ow st how s hs).2) hwl hwr (fun x w F hkept hR hap => hfin x w F hkept (lv x w F st hR) hap) _ _ _ _ (fun _ _ => (none, 0)) (fun _ _ => False) ?_ ?_)
  · have := List.length_filter_le (fun i => !(Array.replicate lops.toArray.size false).getD i true) (List.range lops.length)
    simpa [unl] using this
  · have none : ∀ i, (Array.replicate lops.toArray.size false).getD i false = false := fun i => by
      simp [Array.getD]
    refine ⟨⟨by simp, fun j oj _ h => absurd ((none j).symm.trans h) (by simp)⟩, ⟨rfl, rfl, rfl, Nat.le_refl _, fun _ _ => rfl⟩, fun x _ => ⟨rfl, rfl, fun d => ⟨fun ⟨i, o, _, h, _⟩ => absurd ((none i).symm.trans h) (by simp), fun _ => rfl⟩⟩, fun s _ h => absurd ((none s.i).symm.trans h) (by simp), fun s _ _ _ h => absurd ((none s.i).symm.trans h) (by simp), fun s _ h => absurd ((none s.i).symm.trans h) (by simp)⟩
theorem any_region_F {Q : Exit → Act → World → Prop} {b af : (Nat → Par) → Act} (an : List (List Nat)) (m1 m2 : List Bool) (st : List St) (fills : List (Nat × Nat)) (early : List Nat) (shape : Nat → Par → Value) (R : Nat → (Nat → Par) → (Nat → Prop) → World → Prop) (bf : Act → (Nat → Par) → Act)
    (hb : regB .any lops an m1 m2 st = true) (he : earlyB lops an m1 early = true) (hbf : ∀ x, putH shape x lops st a0 = bf a0 x) (ds : List Tmp) (hds : slotsB m1 m2 lops ds = true)
    (hl : ∀ p ∈ fills, p.2 < w0.heap.size) (hd : ∀ p ∈ fills, ∀ q ∈ fills, p.1 ≠ q.1 → p.2 ≠ q.2)
    (hq : ∀ (x : Nat → Par) (D : World → Prop), Good (fun k => k < w0.heap.size ∧ ∀ p ∈ fills, p.2 = k → p.1 ∈ early) w0 D → wpQuiet P lops.toArray (fun w' => ∃ y : Of D, w' = y.val) (fun a' => a' = b x) (takeOps m1 lops) (bf a0 x))
    (hq2 : ∀ (x : Nat → Par) (D : World → Prop), Good (fun k => k < w0.heap.size ∧ free fills k) w0 D → wpQuiet P lops.toArray (fun w' => ∃ y : Of D, w' = y.val) (fun a' => a' = af x) (takeOps m2 lops) (b x))
    (hcall : ∀ d ∈ ds, ∀ (x x' : Nat → Par), (af x).tmps.getD d undef = (af x').tmps.getD d undef)
    (hob : obls P lops an st (wrF fills) w0 af shape R st) (how : owes R st)
    (hfin : ∀ (x : Nat → Par) (w : World) (F : Nat → Nat → Prop), Kept (fun k => k < w0.heap.size ∧ free fills k) w0 w → lives st R x F w st → Aparts st F → Q .normal (af x) w) : wpAny P .any lops.toArray Q lops.toArray.size (Array.replicate lops.toArray.size false) a0 { w0 with drawn := w0.drawn + 1 } := by
  have hk := chk_of hb
  refine any_region_XA (b := b) (af := af) an m1 m2 st shape (wrF fills) R (fun k => k < w0.heap.size ∧ ∀ p ∈ fills, p.2 = k → p.1 ∈ early) (fun k => k < w0.heap.size ∧ free fills k) hb ?_ (fun k hk => ⟨hk.1, fun i _ s _ h => absurd rfl (hk.2 _ h)⟩)
    (fun s _ k h => hl _ h) (fun s _ s' _ hne k h h' => hd _ h _ h' hne rfl) (fun x D hD => by rw [hbf]; exact hq x D hD) hq2 hds hcall hob how fun x w F hkk hl hap => hfin x w F (hkk.weak fun k hk => ⟨hk.1, fun s _ h => hk.2 _ h rfl⟩) hl hap
  intro k hk'
  exact ⟨hk'.1, fun i hi s _ hw => .inr (early_spec hk.len1 he (hk'.2 _ hw rfl) hi)⟩
end

section
variable {P : Program} {md : Region.Mode} {ops small : Array Oper} {Q Q1 : Exit → Act → World → Prop}

theorem oper_imp {o : Oper} {a : Act} {w : World} {K : Act → World → Prop} (hq : ∀ e a w, e ≠ .normal → ¬ Q1 e a w) (h : o.wp P a w K Q1) : o.wp P a w K Q := by
  unfold Oper.wp at *
  generalize (execOp a.eval o).run P w = r at *
  cases r with
  | ok n w' =>
    cases n <;> simp only [Oper.upon] at h ⊢ <;>
      first
        | exact h
        | exact Calls.mono h (fun e w'' he => by
            cases e with
            | returned v => exact he
            | panicked c => exact absurd he (hq _ _ _ (by simp))
            | outgrown => obtain ⟨a, w, he⟩ := he; exact absurd he (hq _ _ _ (by simp)))
  | halt x w' =>
    cases x <;> simp only [Oper.upon] at h ⊢
    exact absurd h (hq _ _ _ (by simp))
/-- Operations up to `n` wait for elder ones alone, and ask elder ones. -/
def backB (md : Region.Mode) (ops : Array Oper) : Bool :=
  (List.range ops.size).all fun i => match ops[i]? with
    | some o => (o.after.all fun e => !Region.binds md e || decide (e.on < i)) && (match o.guard with | some (g, _) => decide (g < i) | none => true)
    | none => true
theorem back_spec (h : backB md ops = true) {i : Nat} {o : Oper} (ho : ops[i]? = some o) : (∀ e ∈ o.after, Region.binds md e = true → e.on < i) ∧ ∀ g b, o.guard = some (g, b) → g < i := by
  have h1 := List.all_eq_true.1 h i (List.mem_range.2 (Array.getElem?_eq_some_iff.1 ho).1)
  simp only [ho, Bool.and_eq_true] at h1
  refine ⟨fun e he hb => ?_, fun g b hg => ?_⟩
  · have := (Array.all_eq_true_iff_forall_mem.1 h1.1) e he
    simpa [hb] using this
  · have := h1.2
    rw [hg] at this
    simpa using this
/-- Where one is left, one is ready. -/
theorem ready_some (hb : backB md ops = true) {L : Array Bool} : ∀ (i : Nat), i < ops.size → L.getD i true = false → ∃ j, j ≤ i ∧ j ∈ Region.ready md ops L := by
  intro i
  induction i using Nat.strongRecOn with
  | _ i ih =>
    intro hi hL
    have ho : ops[i]? = some ops[i] := Array.getElem?_eq_getElem hi
    by_cases hall : ∀ e ∈ (ops[i]).after, Region.binds md e = true → L.getD e.on false = true
    · exact ⟨i, Nat.le_refl _, mem_ready.2 ⟨hL, _, ho, hall⟩⟩
    · simp only [Classical.not_forall] at hall
      obtain ⟨e, he, hbe, hne⟩ := hall
      have hlt := (back_spec hb ho).1 e he hbe
      have hLs : i < L.size := by
        rcases Nat.lt_or_ge i L.size with h | h
        · exact h
        · simp [Array.getElem?_eq_none h] at hL
      have hf : L.getD e.on true = false := by
        have : e.on < L.size := by omega
        simp [this] at hne ⊢; exact hne
      obtain ⟨j, h1, h2⟩ := ih e.on hlt (by omega) hf
      exact ⟨j, by omega, h2⟩
theorem ready_none {L : Array Bool} (h : ∀ i, i < ops.size → L.getD i true = true) : Region.ready md ops L = [] := by
  cases hr : Region.ready md ops L with
  | nil => rfl
  | cons j t =>
    have hj : j ∈ Region.ready md ops L := by rw [hr]; exact List.mem_cons_self
    obtain ⟨h1, o, ho, _⟩ := mem_ready.1 hj
    rw [h j (Array.getElem?_eq_some_iff.1 ho).1] at h1
    cases h1
theorem late_chain {n : Nat} (hl : lateB md ops n = true) {t : Nat} (hn : n < t) (ht : t < ops.size) : waitsFor md ops t (t - 1) = true := by
  simp only [lateB, Bool.or_eq_true, decide_eq_true_eq, Bool.and_eq_true] at hl
  rcases hl with hl | ⟨_, hch⟩
  · omega
  · have := List.all_eq_true.1 hch t (List.mem_range.2 ht)
    simp only [Bool.or_eq_true, decide_eq_true_eq] at this
    rcases this with h | h
    · omega
    · exact h
theorem getD_ft {L : Array Bool} {i : Nat} (h : i < L.size) (d d' : Bool) : L.getD i d = L.getD i d' := by simp [h]
/-- The last ones come in their order. -/
theorem any_tail {n : Nat} (hb : backB md ops = true) (hl : lateB md ops n = true) (f : Nat) : ∀ (r p : Nat) (L : Array Bool) (a : Act) (w : World), p + r = ops.size → n ≤ p → L.size = ops.size → (∀ i, i < p → L.getD i false = true) → (∀ i, p ≤ i → L.getD i false = false) →
    wpOps P ops Q (List.range' p r) a w → wpAny P md ops Q (f + r) L a w
  | 0, p, L, a, w, hp, _, hs, hlo, _, h => by
    have hr : Region.ready md ops L = [] := ready_none fun i hi => by rw [getD_ft (by omega) true false]; exact hlo i (by omega)
    have h' : Q .normal a w := by simpa [wpOps] using h
    cases f with
    | zero => exact ⟨hr, h'⟩
    | succ f => exact ⟨fun _ => h', fun i hi => by rw [hr] at hi; cases hi⟩
  | r + 1, p, L, a, w, hp, hnp, hs, hlo, hhi, h => by
    have hps : p < ops.size := by omega
    rw [List.range'_succ, wpOps_cons] at h
    have hone : ∀ i ∈ Region.ready md ops L, i = p := fun i hi => by
      obtain ⟨h1, o, ho, hall⟩ := mem_ready.1 hi
      have his := (Array.getElem?_eq_some_iff.1 ho).1
      rcases Nat.lt_trichotomy i p with h | h | h
      · rw [getD_ft (by omega) true false, hlo i h] at h1; cases h1
      · exact h
      · obtain ⟨o', ho', e, he, hbe, hon⟩ := waits_spec (late_chain hl (by omega) his)
        have : o' = o := Option.some.inj (ho'.symm.trans ho)
        subst this
        have := hall e he hbe
        rw [hon, hhi (i - 1) (by omega)] at this
        cases this
    refine ⟨fun hr => ?_, fun i hi => ?_⟩
    · obtain ⟨j, _, hj⟩ := ready_some hb (L := L) p hps (by rw [getD_ft (by omega) true false]; exact hhi p (Nat.le_refl _))
      rw [hr] at hj; cases hj
    · have := hone i hi
      subst this
      refine wpOp_mono (fun a' w' hk => any_tail hb hl f r (i + 1) _ a' w' (by omega) (by omega) (by simp [hs]) (fun j hj => ?_) (fun j hj => ?_) hk) h
      · by_cases hij : i = j
        · subst hij; simp [Array.getD, hs, hps]
        · rw [getD_set_ne false hij]; exact hlo j (by omega)
      · rw [getD_set_ne false (by omega)]; exact hhi j (by omega)
theorem any_cut {n : Nat} (hb : backB md ops = true) (hl : lateB md ops n = true) (hn : n ≤ ops.size) (hss : small.size = n) (hsm : ∀ i, i < n → small[i]? = ops[i]?)
    (hq : ∀ e a w, e ≠ .normal → ¬ Q1 e a w) (hq1 : ∀ a w, Q1 .normal a w → wpOps P ops Q (List.range' n (ops.size - n)) a w) :
    ∀ (f : Nat) (L L' : Array Bool) (a : Act) (w : World), L.size = n → L'.size = ops.size → (∀ i, i < n → L'.getD i false = L.getD i false) → (∀ i, n ≤ i → L'.getD i false = false) → Closed md ops L' →
      wpAny P md small Q1 f L a w → wpAny P md ops Q (f + (ops.size - n)) L' a w := by
  intro f
  have tail : ∀ (f : Nat) (L L' : Array Bool) (a : Act) (w : World), L.size = n → L'.size = ops.size → (∀ i, i < n → L'.getD i false = L.getD i false) → (∀ i, n ≤ i → L'.getD i false = false) →
      (∀ i, i < n → L.getD i true = true) → wpAny P md small Q1 f L a w → wpAny P md ops Q (f + (ops.size - n)) L' a w := fun f L L' a w hL hL' hag hhi hall h => by
    have hr : Region.ready md small L = [] := ready_none fun i hi => hall i (by omega)
    have hn1 : Q1 .normal a w := by
      cases f with
      | zero => exact h.2
      | succ f => exact h.1 hr
    exact any_tail hb hl f (ops.size - n) n L' a w (by omega) (Nat.le_refl _) hL' (fun i hi => by rw [hag i hi, getD_ft (by omega) false true]; exact hall i hi) hhi (hq1 _ _ hn1)
  have rdy : ∀ (L L' : Array Bool), L.size = n → L'.size = ops.size → (∀ i, i < n → L'.getD i false = L.getD i false) → ∀ i, i < n → (i ∈ Region.ready md ops L' ↔ i ∈ Region.ready md small L) := fun L L' hL hL' hag i hi => by
    rw [mem_ready, mem_ready, hsm i hi, getD_ft (L := L') (by omega) true false, getD_ft (L := L) (by omega) true false, hag i hi]
    refine and_congr_right fun _ => exists_congr fun o => and_congr_right fun ho => ?_
    refine forall_congr' fun e => forall_congr' fun he => forall_congr' fun hbe => ?_
    rw [hag e.on (by have := (back_spec hb ho).1 e he hbe; omega)]
  induction f with
  | zero =>
    intro L L' a w hL hL' hag hhi hc h
    by_cases hall : ∀ i, i < n → L.getD i true = true
    · exact tail 0 L L' a w hL hL' hag hhi hall h
    · exfalso
      simp only [Classical.not_forall] at hall
      obtain ⟨i, hi, hne⟩ := hall
      obtain ⟨j, hj, hr⟩ := ready_some hb (L := L') i (by omega) (by
        rw [getD_ft (by omega) true false, hag i hi, getD_ft (by omega) false true]; simpa using hne)
      have := (rdy L L' hL hL' hag j (by omega)).1 hr
      rw [h.1] at this; cases this
  | succ f ih =>
    intro L L' a w hL hL' hag hhi hc h
    by_cases hall : ∀ i, i < n → L.getD i true = true
    · exact tail (f + 1) L L' a w hL hL' hag hhi hall h
    · simp only [Classical.not_forall] at hall
      obtain ⟨i, hi, hne⟩ := hall
      have hun : L'.getD i true = false := by rw [getD_ft (by omega) true false, hag i hi, getD_ft (by omega) false true]; simpa using hne
      obtain ⟨j, hj, hr⟩ := ready_some hb (L := L') i (by omega) hun
      rw [show f + 1 + (ops.size - n) = (f + (ops.size - n)) + 1 by omega]
      refine ⟨fun h0 => (by rw [h0] at hr; cases hr), fun k hk => ?_⟩
      have hkn := late_spec hc hl hi hun hk
      have hst := h.2 k ((rdy L L' hL hL' hag k hkn).1 hk)
      have next : ∀ a' w', wpAny P md small Q1 f (L.setIfInBounds k true) a' w' → wpAny P md ops Q (f + (ops.size - n)) (L'.setIfInBounds k true) a' w' := fun a' w' hk' =>
        ih _ _ a' w' (by simp [hL]) (by simp [hL']) (fun x hx => by
          by_cases hkx : k = x
          · subst hkx; simp [Array.getD, hL, hL', hx, show k < ops.size by omega]
          · rw [getD_set_ne false hkx, getD_set_ne false hkx]; exact hag x hx) (fun x hx => by rw [getD_set_ne false (by omega)]; exact hhi x hx) (hc.set hk) hk'
      unfold wpOp at hst ⊢
      rw [hsm k hkn] at hst
      obtain ⟨_, o, ho, _⟩ := mem_ready.1 hk
      simp only [ho] at hst ⊢
      have hy : Region.wanted o (yielded small a.tmps) = Region.wanted o (yielded ops a.tmps) := by
        unfold Region.wanted
        cases hg : o.guard with
        | none => rfl
        | some gw =>
          obtain ⟨g, b⟩ := gw
          have := (back_spec hb ho).2 g b hg
          have e : yielded small a.tmps g = yielded ops a.tmps g := by unfold yielded; rw [hsm g (by omega)]
          simp only [e]
      rw [hy] at hst
      split
      · rename_i hw
        simp only [hw, if_true] at hst
        rcases hst with hst | ⟨_, a2, w2, h2⟩
        · exact .inl (oper_imp hq (Oper.wp_mono next hst))
        · exact absurd h2 (hq _ _ _ (by simp))
      · rename_i hw
        simp only [hw] at hst
        exact next _ _ hst
end
/-- THE LAST OPERATIONS ARE CUT OFF: `n` others; the last ones are walked behind them. -/
theorem wp_region_cut {P : Program} {id : Nat} {Q : Exit → Act → World → Prop} {a : Act} {w : World} {lops l1 l2 : List Oper} (n : Nat) (hm : P.follows .mixedOrders = true) (h1 : lops.take n = l1) (h2 : lops.drop n = l2) (hb : (backB .any lops.toArray && lateB .any lops.toArray n && decide (n ≤ lops.length)) = true)
    (h : wpAny P .any l1.toArray (fun e a' w' => e = .normal ∧ wpList P lops.toArray Q l2 a' w') l1.toArray.size (Array.replicate l1.toArray.size false) a { w with drawn := w.drawn + 1 }) : (Code.region id lops.toArray true).wp P Q a w := by
  simp only [Bool.and_eq_true, decide_eq_true_eq] at hb
  obtain ⟨⟨hb, hl⟩, hn⟩ := hb
  subst h1
  have hd : l2.length = lops.length - n := by rw [← h2]; simp
  have e2 := wpOps_eq_wpList (P := P) (ops := lops.toArray) (Q := Q) l2 n (fun j => by rw [← h2]; simp)
  rw [hd] at e2
  have hs : (lops.take n).toArray.size = n := by simp; omega
  refine wp_region_any hm ?_
  have := any_cut (ops := lops.toArray) (Q := Q) hb hl (by simpa using hn) hs (fun i hi => by simp [hi]) (fun e a w he h => he h.1) (fun a w h => by simp only [List.size_toArray]; rw [e2]; exact h.2) _ _ (Array.replicate lops.toArray.size false) a _ (by simp; omega) (by simp) (fun i hi => by simp [Array.getD]) (fun i hi => by simp [Array.getD]) ⟨by simp, fun j oj _ hj => by simp [Array.getD] at hj⟩ h
  rwa [hs, show n + (lops.toArray.size - n) = lops.toArray.size by simp; omega] at this
/-- Behind a region in which two rows of one's own have grown. -/
theorem below_two {B i j : Nat} {v v2 : Value} {w0 w : World} (hk : Kept (fun k => k < w0.heap.size ∧ free (fillL i v (ownFill j v2)) k) w0 w) (hB : B ≤ w0.heap.size) (h1 : ∀ g, v.ownBlock = some g → B ≤ g) (h2 : ∀ g, v2.ownBlock = some g → B ≤ g) : Below B w0 w :=
  ⟨hk.os, hk.tape, hk.output, hk.size, fun k hlt => hk.block k ⟨Nat.lt_of_lt_of_le hlt hB, freeL (fun e => absurd (h1 k e) (by omega)) fun q hq e => absurd (h2 _ (mem_ownFill.1 hq).2) (by omega)⟩⟩
theorem apart_two {F G : Nat → Prop} {u v : Value} (h : ∀ k, F k → ¬ G k) (h1 : ∀ g, u.ownBlock = some g → F g) (h2 : ∀ g, v.ownBlock = some g → G g) : Apart u v := by
  cases hu : u.ownBlock with
  | none => exact .inl hu
  | some g => exact .inr fun e => h g (h1 g hu) (h2 g (e ▸ hu))
end Go.Proofs.Ytiggefmckomilaa
