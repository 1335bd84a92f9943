/-
  The order of tests: books as the acts make them.
  Chains of standards and what depends on them: plain words.
  Two lists are equal: names, numbers.
  Quotients of the reference, rounded down and up: its contracts.
-/
import Derived.Test.YtiggefmckomilaaOrdMath
import Derived.Test.YtiggefmckomilaaTraceDep
import Derived.BigQuiet
import Derived.Test.YtiggefmckomilaaProg
import Derived.Test.YtiggefmckomilaaShelf
import Derived.Test.YtiggefmckomilaaMapV
set_option linter.unusedSimpArgs false
set_option linter.unusedVariables false
namespace Go.Proofs.Ytiggefmckomilaa
open Go Go.RowKit

def ordB (ac : Nat → ActR) : Nat → List Ent
  | 0 => []
  | k + 1 => if (ac k).k % 8 ≤ 2 then enterL (ordB ac k) (ac k) else ordB ac k
def othA (ac : Nat → ActR) : Nat → List ActR
  | 0 => []
  | k + 1 => othA ac k ++ if (ac k).k % 8 < 2 ∧ enterB (ordB ac k) (ac k) = true then [ac k] else []
def tstA (ac : Nat → ActR) : Nat → List ActR
  | 0 => []
  | k + 1 => tstA ac k ++ if (ac k).k % 8 = 2 ∧ enterB (ordB ac k) (ac k) = true then [ac k] else []
def bookA (ts : List ActR) : List Ent := ts.foldl enterL []
theorem bookA_snoc (ts : List ActR) (a : ActR) : bookA (ts ++ [a]) = enterL (bookA ts) a := by unfold bookA; rw [List.foldl_append]; rfl
def tstOf (a : ActR) : Tst := ⟨a.nm, a.pr, a.tm, a.lo, a.hi⟩
theorem ent2 {a : ActR} (h : a.k % 8 = 2) : entA a = some (.test (tstOf a)) := by unfold entA; rw [h]; rfl
theorem enter_ok {l : List Ent} {a : ActR} {x : Ent} (hx : entA a = some x) (h : okEnt l x = true) : enterB l a = true ∧ enterL l a = x :: l := by
  unfold enterB okO enterL entO
  rw [hx]
  exact ⟨h, if_pos h⟩
structure OrdI (ac : Nat → ActR) (k : Nat) : Prop where
  good : GoodB (ordB ac k)
  len : (ordB ac k).length ≤ k
  same : SameD (ordB ac k) (bookA (othA ac k))
  tests : testsT (ordB ac k) = ((tstA ac k).map tstOf).reverse
  kinds : ∀ a ∈ tstA ac k, a.k % 8 = 2
  olen : (othA ac k).length ≤ k
  tlen : (tstA ac k).length ≤ k
  blen : (bookA (othA ac k)).length ≤ k
  bgood : GoodB (bookA (othA ac k))
  notest : testsT (bookA (othA ac k)) = []
/-- What is entered into the one book is entered into the other one. -/
theorem oth_step {ac : Nat → ActR} {k : Nat} (h : OrdI ac k) (hk : k ≤ 60) (h1 : (ac k).k % 8 < 2) (hb : enterB (ordB ac k) (ac k) = true) :
    ∃ x, (∀ t, x ≠ .test t) ∧ ordB ac (k + 1) = x :: ordB ac k ∧ enterB (bookA (othA ac k)) (ac k) = true ∧ enterL (bookA (othA ac k)) (ac k) = x :: bookA (othA ac k) ∧ SameD (x :: ordB ac k) (x :: bookA (othA ac k)) := by
  obtain ⟨x, e1, e2, e3⟩ := enterL_true hb
  have hl := h.len
  have hl2 := h.blen
  have hB : ordB ac (k + 1) = x :: ordB ac k := by rw [ordB, if_pos (by omega)]; exact e3
  have hr : (ac k).k % 8 = 0 ∨ (ac k).k % 8 = 1 := by omega
  rcases hr with hr | hr
  · have hx : x = .radar (ac k).nm (ac k).n := by unfold entA at e1; rw [hr] at e1; exact (Option.some.inj e1).symm
    subst hx
    have ho := h.same.ok (x := .radar (ac k).nm (ac k).n) (by omega) (by omega) (fun n o e => by cases e)
    rw [e2] at ho
    obtain ⟨f1, f2⟩ := enter_ok e1 ho.symm
    exact ⟨_, (fun t e => by cases e), hB, f1, f2, h.same.radar _ _⟩
  · have hx : x = .define ⟨(ac k).nm, (ac k).pr, (ac k).lo, (ac k).hi, (ac k).tm, (ac k).un, (ac k).n⟩ := by unfold entA at e1; rw [hr] at e1; exact (Option.some.inj e1).symm
    subst hx
    have ho := h.same.ok (x := .define ⟨(ac k).nm, (ac k).pr, (ac k).lo, (ac k).hi, (ac k).tm, (ac k).un, (ac k).n⟩) (by omega) (by omega) (fun n o e => by cases e)
    rw [e2] at ho
    obtain ⟨f1, f2⟩ := enter_ok e1 ho.symm
    exact ⟨_, (fun t e => by cases e), hB, f1, f2, h.same.define _⟩
theorem tst_step {ac : Nat → ActR} {k : Nat} (h2 : (ac k).k % 8 = 2) (hb : enterB (ordB ac k) (ac k) = true) : ordB ac (k + 1) = .test (tstOf (ac k)) :: ordB ac k ∧ okEnt (ordB ac k) (.test (tstOf (ac k))) = true := by
  obtain ⟨x, e1, e2, e3⟩ := enterL_true hb
  rw [ent2 h2] at e1
  rw [← Option.some.inj e1] at e2 e3
  exact ⟨by rw [ordB, if_pos (by omega)]; exact e3, e2⟩
theorem testsT_cons {x : Ent} {l : List Ent} (h : ∀ t, x ≠ .test t) : testsT (x :: l) = testsT l := by
  cases x with
  | test t => exact absurd rfl (h t)
  | _ => rfl
theorem ordI (ac : Nat → ActR) : ∀ k, k ≤ 60 → OrdI ac k
  | 0, _ => ⟨trivial, Nat.le_refl _, SameD.nil, rfl, (fun a h => by cases h), Nat.le_refl _, Nat.le_refl _, Nat.le_refl _, trivial, rfl⟩
  | k + 1, hk => by
    have ih := ordI ac k (by omega)
    obtain ⟨g1, g2, g3, g4, g5, g6, g7, g8, g9, g10⟩ := ih
    have same : ordB ac (k + 1) = ordB ac k → othA ac (k + 1) = othA ac k → tstA ac (k + 1) = tstA ac k → OrdI ac (k + 1) := fun a b c => by
      constructor
      · rw [a]; exact g1
      · rw [a]; omega
      · rw [a, b]; exact g3
      · rw [a, c]; exact g4
      · rw [c]; exact g5
      · rw [b]; omega
      · rw [c]; omega
      · rw [b]; omega
      · rw [b]; exact g9
      · rw [b]; exact g10
    cases hb : enterB (ordB ac k) (ac k) with
    | false =>
      refine same ?_ ?_ ?_
      · rw [ordB]; split
        · exact enterL_false hb
        · rfl
      · rw [othA, if_neg (by rw [hb]; simp), List.append_nil]
      · rw [tstA, if_neg (by rw [hb]; simp), List.append_nil]
    | true =>
      by_cases h1 : (ac k).k % 8 < 2
      · obtain ⟨x, n1, e1, e2, e3, e4⟩ := oth_step (ordI ac k (by omega)) (by omega) h1 hb
        have hO : othA ac (k + 1) = othA ac k ++ [ac k] := by rw [othA, if_pos ⟨h1, hb⟩]
        have hT : tstA ac (k + 1) = tstA ac k := by rw [tstA, if_neg (by omega), List.append_nil]
        have hb2 : bookA (othA ac (k + 1)) = x :: bookA (othA ac k) := by rw [hO, bookA_snoc]; exact e3
        have hg : GoodB (ordB ac (k + 1)) := by rw [ordB, if_pos (by omega)]; exact enterL_good g1
        have hg2 : GoodB (bookA (othA ac (k + 1))) := by rw [hO, bookA_snoc]; exact enterL_good g9
        constructor
        · exact hg
        · rw [e1, List.length_cons]; omega
        · rw [e1, hb2]; exact e4
        · rw [e1, hT, testsT_cons n1]; exact g4
        · rw [hT]; exact g5
        · rw [hO, List.length_append, List.length_singleton]; omega
        · rw [hT]; omega
        · rw [hb2, List.length_cons]; omega
        · exact hg2
        · rw [hb2, testsT_cons n1]; exact g10
      · by_cases h2 : (ac k).k % 8 = 2
        · obtain ⟨e1, -⟩ := tst_step h2 hb
          have hO : othA ac (k + 1) = othA ac k := by rw [othA, if_neg (by omega), List.append_nil]
          have hT : tstA ac (k + 1) = tstA ac k ++ [ac k] := by rw [tstA, if_pos ⟨h2, hb⟩]
          have hg : GoodB (ordB ac (k + 1)) := by rw [ordB, if_pos (by omega)]; exact enterL_good g1
          constructor
          · exact hg
          · rw [e1, List.length_cons]; omega
          · rw [e1, hO]; exact g3.testL _
          · rw [e1, hT, testsT, g4, List.map_append, List.reverse_append]; rfl
          · rw [hT]
            intro a ha
            rcases List.mem_append.1 ha with h | h
            · exact g5 a h
            · rw [List.mem_singleton.1 h]; exact h2
          · rw [hO]; omega
          · rw [hT, List.length_append, List.length_singleton]; omega
          · rw [hO]; omega
          · rw [hO]; exact g9
          · rw [hO]; exact g10
        · refine same ?_ ?_ ?_
          · rw [ordB, if_neg (by omega)]
          · rw [othA, if_neg (by omega), List.append_nil]
          · rw [tstA, if_neg (by omega), List.append_nil]
/-- A test of a list that was accepted is accepted again, in a book with the same standards. -/
theorem again_ok {l l' : List Ent} {a : ActR} (hg : GoodB l) (hs : SameD l l') (hl : l'.length ≤ 100) (h2 : a.k % 8 = 2) (hm : tstOf a ∈ testsT l) : enterB l' a = true ∧ enterL l' a = .test (tstOf a) :: l' :=
  enter_ok (ent2 h2) (by
    show (testE l' (tstOf a) == 0) = true
    rw [((good_tin hg _ hm).same hs).zero hl hs.wd']
    rfl)
/-- The tests from the last one on. -/
def revB (C : List Ent) (ts : List ActR) (j : Nat) : List Ent := (ts.drop j).reverse.foldl enterL C
theorem revB_end (C : List Ent) (ts : List ActR) : revB C ts ts.length = C := by unfold revB; rw [List.drop_length]; rfl
theorem revB_step (C : List Ent) {ts : List ActR} {j : Nat} {a : ActR} (h : ts[j]? = some a) : revB C ts j = enterL (revB C ts (j + 1)) a := by
  obtain ⟨hj, e⟩ := List.getElem?_eq_some_iff.1 h
  unfold revB
  rw [List.drop_eq_getElem_cons hj, e, List.reverse_cons, List.foldl_append]
  rfl
theorem revB_inv {B C : List Ent} {ts : List ActR} (hg : GoodB B) (hgC : GoodB C) (hs : SameD B C) (hlC : C.length + ts.length ≤ 100) (hnt : testsT C = []) (hk : ∀ a ∈ ts, a.k % 8 = 2) (hm : ∀ a ∈ ts, tstOf a ∈ testsT B) :
    ∀ m j, j + m = ts.length → SameD B (revB C ts j) ∧ GoodB (revB C ts j) ∧ (revB C ts j).length ≤ C.length + m ∧ testsT (revB C ts j) = (ts.drop j).map tstOf
  | 0, j, h => by
    obtain rfl : j = ts.length := by omega
    rw [revB_end, List.drop_length]
    exact ⟨hs, hgC, Nat.le_refl _, hnt⟩
  | m + 1, j, h => by
    obtain ⟨a, b, c, d⟩ := revB_inv hg hgC hs hlC hnt hk hm m (j + 1) (by omega)
    have hj : j < ts.length := by omega
    have ha : ts[j] ∈ ts := List.getElem_mem hj
    obtain ⟨e1, e2⟩ := again_ok hg a (by omega) (hk _ ha) (hm _ ha)
    rw [revB_step C (List.getElem?_eq_getElem hj)]
    refine ⟨by rw [e2]; exact a.testR _, enterL_good b, by rw [e2, List.length_cons]; omega, ?_⟩
    rw [e2, testsT, d, List.drop_eq_getElem_cons hj, List.map_cons]
theorem rev_ok {B C : List Ent} {ts : List ActR} (hg : GoodB B) (hgC : GoodB C) (hs : SameD B C) (hlC : C.length + ts.length ≤ 100) (hnt : testsT C = []) (hk : ∀ a ∈ ts, a.k % 8 = 2) (hm : ∀ a ∈ ts, tstOf a ∈ testsT B) {j : Nat} {a : ActR} (h : ts[j]? = some a) : enterB (revB C ts (j + 1)) a = true := by
  obtain ⟨hj, e⟩ := List.getElem?_eq_some_iff.1 h
  obtain ⟨x, -, y, -⟩ := revB_inv hg hgC hs hlC hnt hk hm (ts.length - (j + 1)) (j + 1) (by omega)
  have ha : a ∈ ts := List.mem_of_getElem? h
  exact (again_ok hg x (by omega) (hk _ ha) (hm _ ha)).1
theorem gainE_perm {l l' : List Ent} (hs : SameD l l') (hg : GoodB l) (hg' : GoodB l') (ht : ∀ t, t ∈ testsT l ↔ t ∈ testsT l') (n : ByteArray) (t : Int) : (gainE l n t).1 = (gainE l' n t).1 ∧ (gainE l n t).2.2 = (gainE l' n t).2.2 := by
  unfold gainE
  rw [hs.drift]
  cases driftT l' n with
  | none => exact ⟨rfl, rfl⟩
  | some d =>
    simp only
    split
    · exact ⟨rfl, rfl⟩
    · refine gainQ_perm fun s => ?_
      rw [sel_map, sel_map, List.take_of_length_le (by rw [testInfo_length]; exact Nat.le_refl _), List.take_of_length_le (by rw [testInfo_length]; exact Nat.le_refl _), info_map hg, info_map hg']
      simp only [List.mem_map, List.mem_filter, List.mem_reverse]
      constructor
      · rintro ⟨x, ⟨⟨u, hu, rfl⟩, h2⟩, rfl⟩
        refine ⟨(u, gainT l' u), ⟨⟨u, (ht u).1 hu, rfl⟩, ?_⟩, by rw [hs.gain]⟩
        simp only [hs.void, hs.sym.void] at h2 ⊢
        exact h2
      · rintro ⟨x, ⟨⟨u, hu, rfl⟩, h2⟩, rfl⟩
        refine ⟨(u, gainT l u), ⟨⟨u, (ht u).2 hu, rfl⟩, ?_⟩, by rw [hs.gain]⟩
        simp only [hs.void, hs.sym.void] at h2 ⊢
        exact h2
theorem orders_same (ac : Nat → ActR) (n : Nat) (hn : n ≤ 40) : SameP (ordB ac n) (revB (bookA (othA ac n)) (tstA ac n) 0) ac n (fun _ => ⟨#[]⟩) 0 := by
  obtain ⟨g1, g2, g3, g4, g5, g6, g7, g8, g9, g10⟩ := ordI ac n (by omega)
  have hm : ∀ a ∈ tstA ac n, tstOf a ∈ testsT (ordB ac n) := fun a ha => by rw [g4, List.mem_reverse]; exact List.mem_map.2 ⟨a, ha, rfl⟩
  obtain ⟨a, b, -, d⟩ := revB_inv g1 g9 g3 (by omega) g10 g5 hm (tstA ac n).length 0 (by omega)
  rw [List.drop_zero] at d
  have ht : ∀ t, t ∈ testsT (ordB ac n) ↔ t ∈ testsT (revB (bookA (othA ac n)) (tstA ac n) 0) := fun t => by rw [g4, d, List.mem_reverse]
  exact ⟨fun i _ _ t => a.valueE _ t, (fun i _ h => by rw [outB_zero] at h; cases h), fun i _ t => gainE_perm a g1 b ht _ t⟩
/-- What a test changes of a gain. -/
structure StepG (g g' : (Int × Int) × (Int × Int) × Int) : Prop where
  f : g'.2.2 = 0 ∨ g'.2.2 = 14
  c : g.2.2 = 14 → g'.2.2 = 14
  le : g'.2.2 = 0 → g'.1.1 ≤ g'.1.2
  in_ : g'.2.2 = 0 → g.2.2 = 0 → g.1.1 ≤ g'.1.1 ∧ g'.1.2 ≤ g.1.2
theorem info_nil {l : List Ent} (h : testsT l = []) : testInfo l = [] := by
  have := testInfo_length l
  rw [h] at this
  exact List.length_eq_zero_iff.1 this
theorem gain_step {ac : Nat → ActR} {k : Nat} (hk : k < 40) (h2 : (ac k).k % 8 = 2) (hb : enterB (ordB ac k) (ac k) = true) :
    StepG (gainE (ordB ac k) (ac k).nm 200000) (gainE (ordB ac (k + 1)) (ac k).nm 200000) ∧
    ((gainE (ordB ac (k + 1)) (ac k).nm 200000).2.2 = 14 → ∃ (i j : Nat) (a0 a1 : ActR), (gainE (ordB ac (k + 1)) (ac k).nm 200000).2.1 = ((i : Int), (j : Int)) ∧ i < j ∧ j < (tstA ac (k + 1)).length ∧ (tstA ac (k + 1))[i]? = some a0 ∧ (tstA ac (k + 1))[j]? = some a1 ∧
      enterB (bookA (othA ac (k + 1))) a0 = true ∧ enterB (enterL (bookA (othA ac (k + 1))) a0) a1 = true ∧ gainE (enterL (enterL (bookA (othA ac (k + 1))) a0) a1) (ac k).nm 200000 = ((0, 0), (0, 1), 14)) := by
  have hI := ordI ac k (by omega)
  obtain ⟨g1, g2, g3, g4, g5, g6, g7, g8, g9, g10⟩ := ordI ac (k + 1) (by omega)
  obtain ⟨e1, e2⟩ := tst_step h2 hb
  have hti : TestIn (ordB ac k) (tstOf (ac k)) := testE_in (by unfold okEnt at e2; simpa using e2)
  obtain ⟨⟨d, hd⟩, -⟩ := hti
  have hnm : (tstOf (ac k)).radar = (ac k).nm := rfl
  rw [hnm] at hd
  generalize hnn : (ac k).nm = nm at *
  have hd' : driftT (ordB ac (k + 1)) nm = some d := by rw [e1]; exact hd
  have hv' : ∀ m, voidT (ordB ac (k + 1)) m = false := g3.void
  have hr : inR 200000 0 4294967296 = true := by decide
  have hT' : testInfo (ordB ac (k + 1)) = testInfo (ordB ac k) ++ [(tstOf (ac k), gainT (ordB ac k) (tstOf (ac k)))] := by rw [e1, testInfo]
  have hvv : voidT (ordB ac (k + 1)) = voidT (ordB ac k) := by rw [e1]; rfl
  have hlen : (testsT (ordB ac (k + 1))).length = (testsT (ordB ac k)).length + 1 := by rw [e1]; rfl
  obtain ⟨q, hq⟩ : ∃ q, selN (testInfo (ordB ac k)) nm (voidT (ordB ac k)) d 200000 (testsT (ordB ac k)).length = q := ⟨_, rfl⟩
  obtain ⟨q', hq'⟩ : ∃ q', selN (testInfo (ordB ac (k + 1))) nm (voidT (ordB ac (k + 1))) d 200000 (testsT (ordB ac (k + 1))).length = q' := ⟨_, rfl⟩
  have hE : gainE (ordB ac k) nm 200000 = gainQ q := by unfold gainE; rw [hd]; simp only; rw [hr, hq]; rfl
  have hE' : gainE (ordB ac (k + 1)) nm 200000 = gainQ q' := by unfold gainE; rw [hd']; simp only; rw [hr, hq']; rfl
  have hsub : ∀ s ∈ q.map (·.2), s ∈ q'.map (·.2) := fun s hs => by
    rw [← hq', hlen, selN, List.map_append, hT', hvv, selN_app _ _ _ _ _ _ _ (by rw [testInfo_length]; exact Nat.le_refl _), hq]
    exact List.mem_append_left _ hs
  have hne : q'.length ≠ 0 := by
    intro e
    have hlast : (testInfo (ordB ac (k + 1)))[(testsT (ordB ac k)).length]? = some (tstOf (ac k), gainT (ordB ac k) (tstOf (ac k))) := by
      rw [hT', List.getElem?_append_right (by rw [testInfo_length]; exact Nat.le_refl _), testInfo_length, Nat.sub_self]; rfl
    have : (selN (testInfo (ordB ac (k + 1))) nm (voidT (ordB ac (k + 1))) d 200000 ((testsT (ordB ac k)).length + 1)).length ≠ 0 := by
      rw [selN, hlast, List.length_append]
      simp only [hnm, hnn, hv', and_self, if_true, List.length_singleton]
      omega
    rw [← hlen, hq'] at this
    exact this e
  obtain ⟨num, pw⟩ := selN_num (testInfo (ordB ac (k + 1))) nm (voidT (ordB ac (k + 1))) d 200000 (testsT (ordB ac (k + 1))).length
  rw [hq'] at num pw
  have hdb := drift_bd g1 hd'
  have hinf := info_map g1
  have hle : ∀ y ∈ q', y.2.1 ≤ y.2.2 := fun y hy => by
    obtain ⟨-, x, hx, -, e⟩ := num y hy
    rw [e]
    have hxm := List.mem_of_getElem? hx
    rw [hinf] at hxm
    obtain ⟨t, ht, rfl⟩ := List.mem_map.1 hxm
    have htin := good_tin g1 t (List.mem_reverse.1 ht)
    obtain ⟨l1, l2⟩ := gain_le g1 htin
    obtain ⟨t0, t1⟩ := inR_iff.1 htin.2.1
    exact (widenS_bd (s := gainT (ordB ac (k + 1)) t) hdb.1 hdb.2 t0 t1 (by omega) (by omega) l2 (by omega)).2.1
  rw [hE, hE']
  by_cases hm : (meetQ q' q'.length).1 ≤ (meetQ q' q'.length).2
  · rw [gainQ_meet hne hm]
    refine ⟨⟨.inl rfl, fun hc => ?_, fun _ => hm, fun _ h0 => ?_⟩, fun h => by simp at h⟩
    · by_cases h0 : q.length = 0
      · rw [gainQ_empty h0] at hc; simp at hc
      · obtain ⟨a1, a2⟩ := meet_sub (by omega) hsub
        rw [gainQ_meet h0 (by omega)] at hc
        simp at hc
    · by_cases hq0 : q.length = 0
      · rw [gainQ_empty hq0] at h0; simp at h0
      · obtain ⟨a1, a2⟩ := meet_sub (by omega) hsub
        rw [gainQ_meet hq0 (by omega)]
        exact ⟨a1, a2⟩
  · obtain ⟨i, j, hf, hij, hj, hoff⟩ := off_pair hne hle hm
    rw [gainQ_off hne hm, hf]
    refine ⟨⟨.inr rfl, fun _ => rfl, fun h => by simp at h, fun h => by simp at h⟩, fun _ => ?_⟩
    have y0m := getD_mem (show i < q'.length by omega)
    have y1m := getD_mem hj
    obtain ⟨-, x0, hx0, r0, s0⟩ := num _ y0m
    obtain ⟨-, x1, hx1, r1, s1⟩ := num _ y1m
    have hlt : (q'.getD i (0, (0, 0))).1 < (q'.getD j (0, (0, 0))).1 := by
      have := List.pairwise_iff_getElem.1 pw i j (by omega) hj hij
      rw [List.getD_eq_getElem?_getD, List.getD_eq_getElem?_getD, List.getElem?_eq_getElem (show i < q'.length by omega), List.getElem?_eq_getElem hj]
      exact this
    have hinf2 : testInfo (ordB ac (k + 1)) = (tstA ac (k + 1)).map fun a => (tstOf a, gainT (ordB ac (k + 1)) (tstOf a)) := by
      rw [hinf, g4, List.reverse_reverse, List.map_map]; rfl
    have get : ∀ z x, (testInfo (ordB ac (k + 1)))[z]? = some x → ∃ a, (tstA ac (k + 1))[z]? = some a ∧ x = (tstOf a, gainT (ordB ac (k + 1)) (tstOf a)) := fun z x hx => by
      rw [hinf2, List.getElem?_map] at hx
      cases ha : (tstA ac (k + 1))[z]? with
      | none => rw [ha] at hx; cases hx
      | some a => rw [ha] at hx; exact ⟨a, ha, (Option.some.inj hx).symm⟩
    obtain ⟨a0, ha0, rfl⟩ := get _ _ hx0
    obtain ⟨a1, ha1, rfl⟩ := get _ _ hx1
    have m0 : a0 ∈ tstA ac (k + 1) := List.mem_of_getElem? ha0
    have m1 : a1 ∈ tstA ac (k + 1) := List.mem_of_getElem? ha1
    have hm' : ∀ a ∈ tstA ac (k + 1), tstOf a ∈ testsT (ordB ac (k + 1)) := fun a ha => by rw [g4, List.mem_reverse]; exact List.mem_map.2 ⟨a, ha, rfl⟩
    obtain ⟨u1, u2⟩ := again_ok g1 g3 (by omega) (g5 _ m0) (hm' _ m0)
    have s2 := g3.testR (tstOf a0)
    obtain ⟨u3, u4⟩ := again_ok g1 s2 (by rw [List.length_cons]; omega) (g5 _ m1) (hm' _ m1)
    refine ⟨(q'.getD i (0, (0, 0))).1, (q'.getD j (0, (0, 0))).1, a0, a1, rfl, hlt, (List.getElem?_eq_some_iff.1 ha1).1, ha0, ha1, u1, by rw [u2]; exact u3, ?_⟩
    rw [u2, u4]
    have hC : driftT (.test (tstOf a1) :: .test (tstOf a0) :: bookA (othA ac (k + 1))) nm = some d := by rw [← hd', g3.drift]; rfl
    have s3 := s2.testR (tstOf a1)
    have hti2 : testInfo (.test (tstOf a1) :: .test (tstOf a0) :: bookA (othA ac (k + 1))) = [(tstOf a0, gainT (ordB ac (k + 1)) (tstOf a0)), (tstOf a1, gainT (ordB ac (k + 1)) (tstOf a1))] := by
      rw [testInfo, testInfo, info_nil g10, ← g3.gain, ← s2.gain]; rfl
    have hle2 : (testsT (.test (tstOf a1) :: .test (tstOf a0) :: bookA (othA ac (k + 1)))).length = 2 := by rw [testsT, testsT, g10]; rfl
    unfold gainE
    rw [hC]
    simp only
    rw [hr, if_neg (by decide), hti2, hle2, selN, selN, selN]
    have v0 := s3.sym.void
    simp only at r0 r1
    simp only [List.getElem?_cons_zero, List.getElem?_cons_succ, r0, r1, v0, and_self, if_true, List.nil_append]
    refine gainQ_two ?_
    unfold offQ at hoff
    rw [s1] at hoff
    rw [s0] at hoff
    exact hoff
theorem oth_mem {ac : Nat → ActR} : ∀ {k : Nat} {a : ActR}, a ∈ othA ac k → ∃ i, a = ac i
  | 0, a, h => by cases h
  | k + 1, a, h => by
    rw [othA] at h
    rcases List.mem_append.1 h with h | h
    · exact oth_mem h
    · split at h
      · exact ⟨k, List.mem_singleton.1 h⟩
      · cases h
theorem tst_mem {ac : Nat → ActR} : ∀ {k : Nat} {a : ActR}, a ∈ tstA ac k → ∃ i, a = ac i
  | 0, a, h => by cases h
  | k + 1, a, h => by
    rw [tstA] at h
    rcases List.mem_append.1 h with h | h
    · exact tst_mem h
    · split at h
      · exact ⟨k, List.mem_singleton.1 h⟩
      · cases h
theorem bookA_take {ts : List ActR} {y : Nat} {a : ActR} (h : ts[y]? = some a) : bookA (ts.take (y + 1)) = enterL (bookA (ts.take y)) a := by
  obtain ⟨hy, e⟩ := List.getElem?_eq_some_iff.1 h
  rw [List.take_succ_eq_append_getElem hy, bookA_snoc, e]
end Go.Proofs.Ytiggefmckomilaa
namespace Go.Proofs.Ytiggefmckomilaa
open Go Go.RowKit

def defA (ac : Nat → ActR) : Nat → List ActR
  | 0 => []
  | k + 1 => defA ac k ++ if (ac k).k % 8 = 1 ∧ enterB (ordB ac k) (ac k) = true then [ac k] else []
def stdOf (a : ActR) : Std := ⟨a.nm, a.pr, a.lo, a.hi, a.tm, a.un, a.n⟩
theorem ent1 {a : ActR} (h : a.k % 8 = 1) : entA a = some (.define (stdOf a)) := by unfold entA; rw [h]; rfl
theorem def_mem {ac : Nat → ActR} : ∀ {k : Nat} {a : ActR}, a ∈ defA ac k → ∃ i, a = ac i
  | 0, a, h => by cases h
  | k + 1, a, h => by
    rw [defA] at h
    rcases List.mem_append.1 h with h | h
    · exact def_mem h
    · split at h
      · exact ⟨k, List.mem_singleton.1 h⟩
      · cases h
theorem def_len (ac : Nat → ActR) : ∀ k, (defA ac k).length ≤ k
  | 0 => Nat.le_refl _
  | k + 1 => by
    have := def_len ac k
    rw [defA, List.length_append]
    split <;> simp <;> omega
theorem def_std {ac : Nat → ActR} : ∀ {k : Nat}, GoodB (ordB ac k) → ∀ a ∈ defA ac k, stdT (ordB ac k) a.nm = some (stdOf a)
  | 0, _, a, h => by cases h
  | k + 1, hg, a, h => by
    have hB : ordB ac (k + 1) = if (ac k).k % 8 ≤ 2 then enterL (ordB ac k) (ac k) else ordB ac k := rfl
    have hgk : GoodB (ordB ac k) := by
      rw [hB] at hg
      split at hg
      · cases hb : enterB (ordB ac k) (ac k) with
        | false => rw [enterL_false hb] at hg; exact hg
        | true => obtain ⟨x, -, -, e⟩ := enterL_true hb; rw [e] at hg; exact hg.2
      · exact hg
    rw [defA] at h
    rcases List.mem_append.1 h with h | h
    · have ih := def_std hgk a h
      rw [hB] at hg ⊢
      split
      · rename_i h2
        rw [if_pos h2] at hg
        cases hb : enterB (ordB ac k) (ac k) with
        | false => rw [enterL_false hb]; exact ih
        | true =>
          obtain ⟨x, -, -, e⟩ := enterL_true hb
          rw [e] at hg ⊢
          rw [stdT_cons (fresh_of hg ih)]
          exact ih
      · exact ih
    · split at h
      · rename_i hc
        obtain ⟨h1, hb⟩ := hc
        rw [List.mem_singleton.1 h, hB, if_pos (by omega)]
        obtain ⟨x, e1, -, e3⟩ := enterL_true hb
        rw [ent1 h1] at e1
        rw [e3, ← Option.some.inj e1, stdT, if_pos (show (stdOf (ac k)).name = (ac k).nm from rfl)]
      · cases h
/-- A chain, from a place on. -/
theorem chainDrop {l : List Ent} {n : ByteArray} (hg : GoodB l) (hn : ∃ s, stdT l n = some s) : ∀ j m, (chainT l n)[j]? = some m → (chainT l n).drop j = chainT l m ∧ ∃ s, stdT l m = some s
  | 0, m, h => by
    obtain ⟨s, hs⟩ := hn
    rw [chain_step hg hs] at h
    have e : n = m := by simpa using h
    subst e
    exact ⟨rfl, s, hs⟩
  | j + 1, m, h => by
    have hlt := (List.getElem?_eq_some_iff.1 h).1
    obtain ⟨e, s, hs⟩ := chainDrop hg hn j ((chainT l n)[j]) (List.getElem?_eq_getElem (by omega))
    generalize (chainT l n)[j] = p at e hs
    have e2 : (chainT l n).drop (j + 1) = (if s.par = ByteArray.empty then [] else chainT l s.par) := by
      have : (chainT l n).drop (j + 1) = ((chainT l n).drop j).drop 1 := by rw [List.drop_drop]
      rw [this, e, chain_step hg hs]
      rfl
    have h0 : ((chainT l n).drop (j + 1))[0]? = some m := by rw [List.getElem?_drop]; exact h
    by_cases hp : s.par = ByteArray.empty
    · rw [e2, if_pos hp] at h0; cases h0
    · rw [if_neg hp] at e2
      obtain ⟨q, hq, -⟩ := par_of hg hs hp
      rw [e2, chain_step hg hq] at h0
      have e3 : s.par = m := by simpa using h0
      rw [e2, e3]
      exact ⟨rfl, q, e3 ▸ hq⟩
theorem chainNext {l : List Ent} {n : ByteArray} (hg : GoodB l) (hn : ∃ s, stdT l n = some s) {j : Nat} {s : Std} (h : (chainT l n)[j]? = some s.name) (hs : stdT l s.name = some s) :
    (s.par = ByteArray.empty → j + 1 = (chainT l n).length) ∧ (s.par ≠ ByteArray.empty → (chainT l n)[j + 1]? = some s.par) := by
  obtain ⟨e, -⟩ := chainDrop hg hn j _ h
  have hlt := (List.getElem?_eq_some_iff.1 h).1
  rw [chain_step hg hs] at e
  constructor
  · intro hp
    rw [if_pos hp] at e
    have := congrArg List.length e
    rw [List.length_drop, List.length_singleton] at this
    omega
  · intro hp
    rw [if_neg hp] at e
    obtain ⟨q, hq, -⟩ := par_of hg hs hp
    rw [chain_step hg hq] at e
    have : ((chainT l n).drop j)[1]? = some s.par := by rw [e]; rfl
    rw [List.getElem?_drop] at this
    exact this
theorem memB_take {q : List ByteArray} {j : Nat} {x m : ByteArray} (h : q[j]? = some m) : memB (q.take (j + 1)) x = (memB (q.take j) x || decide (m = x)) := by
  obtain ⟨hj, e⟩ := List.getElem?_eq_some_iff.1 h
  rw [List.take_succ_eq_append_getElem hj]
  unfold memB
  rw [List.any_append, e]
  simp
/-- The tests that depend on a standard: the numbers grow. -/
theorem depT_sorted (l : List Ent) (q : List ByteArray) (k : Nat) : (depT l q k).Pairwise (· < ·) := by
  unfold depT
  exact List.Pairwise.filter _ List.pairwise_lt_range
theorem depT_next {l : List Ent} {q : List ByteArray} {k j a b : Nat} (h1 : (depT l q k)[j]? = some a) (h2 : (depT l q k)[j + 1]? = some b) : a < b := by
  obtain ⟨hj, e1⟩ := List.getElem?_eq_some_iff.1 h1
  obtain ⟨hj2, e2⟩ := List.getElem?_eq_some_iff.1 h2
  have := List.pairwise_iff_getElem.1 (depT_sorted l q k) j (j + 1) hj hj2 (by omega)
  omega
def metN (T : List Nat) (i j : Nat) : Bool := (T.take j).any fun z => decide (z = i)
theorem metN_succ {T : List Nat} {i j z : Nat} (h : T[j]? = some z) : metN T i (j + 1) = (metN T i j || decide (z = i)) := by
  obtain ⟨hj, e⟩ := List.getElem?_eq_some_iff.1 h
  unfold metN
  rw [List.take_succ_eq_append_getElem hj, List.any_append, e]
  simp
theorem met_in {l : List Ent} {x : ByteArray} {i : Nat} {t : Tst} {g : Int × Int} (hg : GoodB l) (ht : (testInfo l)[i]? = some (t, g)) : metN (depT l (depN l x (stdsT l).length) (testsT l).length) i (depT l (depN l x (stdsT l).length) (testsT l).length).length = memB (chainT l t.std) x := by
  have hi := (List.getElem?_eq_some_iff.1 ht).1
  rw [testInfo_length] at hi
  have hd : memB (depN l x (stdsT l).length) t.std = memB (chainT l t.std) x := depN_mem
  rw [← hd]
  unfold metN
  rw [List.take_length, Bool.eq_iff_iff, List.any_eq_true]
  unfold depT
  constructor
  · rintro ⟨z, hz, e⟩
    rw [decide_eq_true_eq] at e
    subst e
    have := (List.mem_filter.1 hz).2
    unfold inT at this
    rw [ht] at this
    exact this
  · intro h
    refine ⟨i, List.mem_filter.2 ⟨List.mem_range.2 hi, ?_⟩, by simp⟩
    unfold inT
    rw [ht]
    exact h
/-- Whether a test of the radar is left. -/
def leftB (B : List Ent) (ts : List ActR) (nm x : ByteArray) (j : Nat) : Bool := (ts.take j).any fun t => decide (t.nm = nm) && !memB (chainT B t.pr) x
theorem leftB_succ {B : List Ent} {ts : List ActR} {nm x : ByteArray} {j : Nat} {t : ActR} (h : ts[j]? = some t) : leftB B ts nm x (j + 1) = (leftB B ts nm x j || (decide (t.nm = nm) && !memB (chainT B t.pr) x)) := by
  obtain ⟨hj, e⟩ := List.getElem?_eq_some_iff.1 h
  unfold leftB
  rw [List.take_succ_eq_append_getElem hj, List.any_append, e]
  simp
theorem gain_empty {B : List Ent} {ts : List ActR} {nm x : ByteArray} (hg : GoodB B) (hw : ∀ n, wdT B n = false) (ht : testsT B = (ts.map tstOf).reverse) (hd : ∃ d, driftT B nm = some d) : decide ((gainE (.turn x true :: B) nm 0).2.2 = 18) = !leftB B ts nm x ts.length := by
  obtain ⟨d, hd⟩ := hd
  have hE : gainE (.turn x true :: B) nm 0 = gainQ (selN (testInfo B) nm (voidT (.turn x true :: B)) d 0 (testsT B).length) := by
    unfold gainE
    rw [show driftT (.turn x true :: B) nm = driftT B nm from rfl, hd]
    rfl
  have hv : ∀ m, voidT (.turn x true :: B) m = memB (chainT B m) x := fun m => by
    cases h : depG B x m with
    | true => rw [void_in h]; exact h.symm
    | false => rw [void_out h, void_none hw]; exact h.symm
  have hq : ((selN (testInfo B) nm (voidT (.turn x true :: B)) d 0 (testsT B).length).length = 0) ↔ leftB B ts nm x ts.length = false := by
    have e := sel_map (testInfo B) nm (voidT (.turn x true :: B)) d 0 (testsT B).length
    have e2 := congrArg List.length e
    rw [List.length_map, List.length_map, List.take_of_length_le (by rw [testInfo_length]; exact Nat.le_refl _)] at e2
    rw [e2, info_map hg, ht, List.reverse_reverse]
    unfold leftB
    rw [List.take_length, List.length_eq_zero_iff, List.filter_eq_nil_iff, List.any_eq_false]
    constructor
    · intro h t htm
      have := h (tstOf t, gainT B (tstOf t)) (by rw [List.map_map]; exact List.mem_map.2 ⟨t, htm, rfl⟩)
      rw [hv] at this
      exact this
    · intro h y hy
      rw [List.map_map] at hy
      obtain ⟨t, htm, rfl⟩ := List.mem_map.1 hy
      have := h t htm
      simp only [Function.comp]
      rw [hv]
      exact this
  rw [hE]
  cases hl : leftB B ts nm x ts.length with
  | false =>
    rw [gainQ_empty (hq.2 hl)]
    rfl
  | true =>
    have hne : (selN (testInfo B) nm (voidT (.turn x true :: B)) d 0 (testsT B).length).length ≠ 0 := fun h => by rw [hq.1 h] at hl; cases hl
    unfold gainQ
    rw [if_neg hne]
    split <;> rfl
theorem chain_test {B : List Ent} {ts : List ActR} (hg : GoodB B) (ht : testsT B = (ts.map tstOf).reverse) {i : Nat} {a : ActR} (h : ts[i]? = some a) :
    chainA B (i : Int) = (chainT B a.pr, 0) ∧ (testInfo B)[i]? = some (tstOf a, gainT B (tstOf a)) ∧ TestIn B (tstOf a) := by
  have hi : (testInfo B)[i]? = some (tstOf a, gainT B (tstOf a)) := by
    rw [info_map hg, ht, List.reverse_reverse, List.map_map, List.getElem?_map, h]; rfl
  refine ⟨?_, hi, good_tin hg _ (by rw [ht, List.mem_reverse]; exact List.mem_map.2 ⟨a, List.mem_of_getElem? h, rfl⟩)⟩
  unfold chainA
  rw [show ((i : Nat) : Int).toNat = i from rfl, hi]
  simp only
  rw [if_pos (by omega)]
  rfl
theorem chainLen {l : List Ent} : ∀ {n : ByteArray}, (chainT l n).length ≤ l.length := fun {n} => by
  induction l generalizing n with
  | nil => exact Nat.le_refl _
  | cons e l ih =>
    cases e with
    | define s =>
      rw [chainT]
      have h1 := ih (n := n)
      have h2 := ih (n := s.par)
      split
      · split
        · simp only [List.length_cons, List.length_nil]; omega
        · simp only [List.length_cons]; omega
      · simp only [List.length_cons]; omega
    | _ => exact Nat.le_succ_of_le (ih (n := n))
end Go.Proofs.Ytiggefmckomilaa
namespace Go.Proofs.Ytiggefmckomilaa
open Go Go.RowKit

/-- A slice that reads as some values, below a block. -/
def ListAt (w : World) (B : Nat) (A : Option Addr) (q : List Value) : Prop := 0 < q.length → ∃ b off, A = some ⟨b, off, none⟩ ∧ b < B ∧ ∀ (i : Nat) (v : Value), q[i]? = some v → w.cell? ⟨b, off + i, none⟩ = some v
theorem ListAt.later {w w' : World} {B B' : Nat} {A : Option Addr} {q : List Value} (h : ListAt w B A q) (hb : Below B w w') (hB : B ≤ B') : ListAt w' B' A q := fun hn => by
  obtain ⟨b, off, e, hl, hc⟩ := h hn
  exact ⟨b, off, e, by omega, fun i s hs => (hb.cell hl).trans (hc i s hs)⟩
theorem ListAt.blk {w : World} {g : Nat} {t : TypeId} {cs : Array Value} {q : List Value} (h : Blk w g t cs) (hq : cs.toList = q) : ListAt w w.heap.size (some ⟨g, 0, none⟩) q := fun _ => by
  subst hq
  exact ⟨g, 0, rfl, h.lt, fun i v hv => by rw [Nat.zero_add]; exact h.c i (by rw [← hv]; exact (Array.getElem?_toList).symm)⟩
theorem ListAt.own {w : World} {base n c : Nat} {t : TypeId} {A : Option Addr} {xs : List Value} (h : w.ownsRow base t 1 (.slice A n c) n xs) (hn : xs.length = n) : ListAt w w.heap.size A xs := fun h0 => by
  obtain ⟨b, cur, rfl, -, hb, -, -, hc⟩ := row_blk h (by omega)
  exact ⟨b, 0, rfl, hb.lt, fun i v hv => by rw [Nat.zero_add]; exact hb.c i (hc i v hv)⟩
set_option maxHeartbeats 1000000 in
set_option maxRecDepth 100000 in
theorem texts_any (A B : Option Addr) (n m c d : Nat) (q : List ByteArray) (w : World) (hn : q.length = n) (hm : q.length = m) (hmax : n ≤ 1000) (h : ListAt w w.heap.size A (strV q)) (h2 : ListAt w w.heap.size B (strV q)) :
    Calls Try.prog 43 #[.slice A n c, .slice B m d] w fun e w' => e = .returned (.bool true) ∧ Below w.heap.size w w' := by
  subst hm
  subst hn
  have hln : (strV q).length = q.length := by unfold strV; simp
  obtain ⟨n, hN⟩ : ∃ n, q.length = n := ⟨_, rfl⟩
  rw [hN] at hmax hln ⊢
  have H := hide h
  have H2 := hide h2
  have Hln := hide hln
  have HN := hide hN
  clear h h2 hln hN
  go_enter Try.func43, Try.ntmps43
  go_wp2_with fail
  go_loopw [5] (fun i wr => ∃ k : Nat, k ≤ n ∧ i = .int .i64 k ∧ Below w.heap.size w wr) (fun i _ => n - (intOf i).toNat)
  case atStart => exact ⟨0, by omega, rfl, Below.refl _ _⟩
  case round =>
    obtain ⟨k, hk, rfl, hB⟩ := hrel
    have HB := hide hB
    clear hB
    by_cases hlt : k < n
    · obtain ⟨b, off, rfl, hb, hc⟩ := (H.out.later HB.out HB.out.size) (by have := Hln.out; omega)
      obtain ⟨b2, off2, rfl, hb2, hc2⟩ := (H2.out.later HB.out HB.out.size) (by have := Hln.out; omega)
      have hlt2 : (k : Int) < n := by omega
      obtain ⟨y, hy⟩ : ∃ y, q[k]? = some y := ⟨_, List.getElem?_eq_getElem (by have := HN.out; omega)⟩
      have hy2 : (strV q)[k]? = some (.string y) := by unfold strV; rw [List.getElem?_map, hy]; rfl
      have c0 := hc k _ hy2
      have c2 := hc2 k _ hy2
      clear hc hc2 hy hy2
      have heq : (y.toList == y.toList) = true := beq_self_eq_true _
      go_wp2_with fail
      go_quiet (fail)
      have hL : Below wr.heap.size wr (wr.drewN nq) := below_drewN (Below.refl _ _) _
      generalize (wr.drewN nq : World) = w2 at hL ⊢
      clear c0 c2 hb hb2
      replace HB := hide (onward HB.out hL)
      clear hL
      go_wp2_with fail
      go_roundw
      case rel => exact ⟨k + 1, by omega, by go_num, HB.out⟩
      case measure => simp [intOf] <;> omega
    · have hkn : k = n := by omega
      subst hkn
      go_wp2
      go_ret
      exact ⟨rfl, HB.out⟩
set_option maxHeartbeats 1000000 in
set_option maxRecDepth 100000 in
theorem ints_any (A B : Option Addr) (n m c d : Nat) (q : List Value) (w : World) (hn : q.length = n) (hm : q.length = m) (hmax : n ≤ 1000) (hq : ∀ v ∈ q, ∃ z, v = .int .i64 z) (h : ListAt w w.heap.size A q) (h2 : ListAt w w.heap.size B q) :
    Calls Try.prog 44 #[.slice A n c, .slice B m d] w fun e w' => e = .returned (.bool true) ∧ Below w.heap.size w w' := by
  subst hm
  subst hn
  obtain ⟨n, hN⟩ : ∃ n, q.length = n := ⟨_, rfl⟩
  rw [hN] at hmax ⊢
  have H := hide h
  have H2 := hide h2
  have HN := hide hN
  have Hq := hide hq
  clear h h2 hN hq
  go_enter Try.func44, Try.ntmps44
  go_wp2_with fail
  go_loopw [5] (fun i wr => ∃ k : Nat, k ≤ n ∧ i = .int .i64 k ∧ Below w.heap.size w wr) (fun i _ => n - (intOf i).toNat)
  case atStart => exact ⟨0, by omega, rfl, Below.refl _ _⟩
  case round =>
    obtain ⟨k, hk, rfl, hB⟩ := hrel
    have HB := hide hB
    clear hB
    by_cases hlt : k < n
    · obtain ⟨b, off, rfl, hb, hc⟩ := (H.out.later HB.out HB.out.size) (by have := HN.out; omega)
      obtain ⟨b2, off2, rfl, hb2, hc2⟩ := (H2.out.later HB.out HB.out.size) (by have := HN.out; omega)
      have hlt2 : (k : Int) < n := by omega
      obtain ⟨y, hy⟩ : ∃ y, q[k]? = some y := ⟨_, List.getElem?_eq_getElem (by have := HN.out; omega)⟩
      obtain ⟨z, rfl⟩ := Hq.out _ (List.mem_of_getElem? hy)
      have c0 := hc k _ hy
      have c2 := hc2 k _ hy
      clear hc hc2 hy
      go_wp2_with fail
      go_quiet (fail)
      have hL : Below wr.heap.size wr (wr.drewN nq) := below_drewN (Below.refl _ _) _
      generalize (wr.drewN nq : World) = w2 at hL ⊢
      clear c0 c2 hb hb2
      replace HB := hide (onward HB.out hL)
      clear hL
      go_wp2_with fail
      go_roundw
      case rel => exact ⟨k + 1, by omega, by go_num, HB.out⟩
      case measure => simp [intOf] <;> omega
    · have hkn : k = n := by omega
      subst hkn
      go_wp2
      go_ret
      exact ⟨rfl, HB.out⟩
end Go.Proofs.Ytiggefmckomilaa
namespace Go.Proofs.Ytiggefmckomilaa
open Go.RowKit

theorem Down_any (a b : Int) (w : World) (ha1 : -4611686018427387903 ≤ a) (hb : 1 ≤ b) (ha2 : a ≤ 4611686018427387903) (_hb2 : b ≤ 4611686018427387903) :
    Calls Try.prog 56 #[.int .i64 a, .int .i64 b] w fun e w' => e = .returned (.int .i64 (a / b)) ∧ w = w' := by
  have hq := tdiv_floor (a := a) (b := b) (by omega)
  by_cases ha : 0 ≤ a
  · have h1 : 0 ≤ a / b := Int.ediv_nonneg ha (by omega)
    have h2 : a / b ≤ a := Int.ediv_le_self b ha
    have h3 : 0 ≤ a % b := Int.emod_nonneg _ (by omega)
    clear hq
    go_enter Try.func56, Try.ntmps56
    go_wp2
    go_ret
    exact ⟨rfl, rfl⟩
  · have h2 : -a / b ≤ -a := Int.ediv_le_self b (by omega)
    have h3 : 0 ≤ -a / b := Int.ediv_nonneg (by omega) (by omega)
    have e1 : a.tdiv b = -(-a / b) := by rw [← Int.neg_neg a, Int.neg_tdiv, Int.neg_neg, Int.tdiv_eq_ediv_of_nonneg (by omega)]
    have h4 : -4611686018427387903 ≤ a.tdiv b := by omega
    have h5 : a.tdiv b ≤ 0 := by omega
    clear e1 h2 h3
    have Hq := hide hq
    clear hq
    go_enter Try.func56, Try.ntmps56
    go_wp2
    all_goals
      go_ret
      exact ⟨ret_int (by rw [Hq.out]; first | rw [if_pos (by assumption)] | rw [if_neg (by omega)]), rfl⟩

theorem Up_any (a b : Int) (w : World) (ha1 : -4611686018427387903 ≤ a) (hb : 1 ≤ b) (ha2 : a ≤ 4611686018427387903) (hb2 : b ≤ 4611686018427387903) :
    Calls Try.prog 57 #[.int .i64 a, .int .i64 b] w fun e w' => e = .returned (.int .i64 (cdiv a b)) ∧ w = w' := by
  have h1 : -4611686018427387903 ≤ -a / b ∧ -a / b ≤ 4611686018427387903 := by
    constructor
    · have := (Int.le_ediv_iff_mul_le (a := -4611686018427387903) (b := -a) (c := b) (by omega)).2 (by omega)
      exact this
    · by_cases h : 0 ≤ -a
      · have := Int.ediv_le_self b h; omega
      · have : -a / b ≤ 0 := by
          have := Int.ediv_lt_of_lt_mul (a := -a) (b := 1) (c := b) (by omega) (by omega)
          omega
        omega
  obtain ⟨h2, h3⟩ := h1
  go_enter Try.func57, Try.ntmps57
  go_wp2_with (go_at_call 56; refine (Down_any _ _ _ (by omega) hb (by omega) hb2).mono ?_; rintro e w' ⟨rfl, rfl⟩)
  go_ret
  exact ⟨rfl, rfl⟩
end Go.Proofs.Ytiggefmckomilaa
