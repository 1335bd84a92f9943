/-
  The order of tests: books as the acts make them.
  Two lists are equal: names, numbers.
  Quotients of the reference, rounded down and up: its contracts.
  Corrected powers: trace's and the reference's.
  The chapter's examples of books: what they answer.
-/
import Derived.Test.YtiggefmckomilaaOrdMath
import Derived.Test.YtiggefmckomilaaTraceDep
import Derived.BigQuiet
import Derived.Test.YtiggefmckomilaaProg
import Derived.Test.YtiggefmckomilaaShelf
import Derived.Test.YtiggefmckomilaaMapV
import Derived.Test.YtiggefmckomilaaActF
set_option linter.unusedSimpArgs false
set_option linter.unusedVariables false
namespace Go.Proofs.Ytiggefmckomilaa
open Go Go.RowKit

def ordB (ac : Nat → ActR) : Nat → List Ent
  | 0 => []
  | k + 1 => if (ac k).k % 8 ≤ 2 then enterL (ordB ac k) (ac k) else ordB ac k
def othA (ac : Nat → ActR) : Nat → List ActR
  | 0 => []
  | k + 1 => othA ac k ++ if (ac k).k % 8 < 2 ∧ enterB (ordB ac k) (ac k) = true then [ac k] else []
def tstA (ac : Nat → ActR) : Nat → List ActR
  | 0 => []
  | k + 1 => tstA ac k ++ if (ac k).k % 8 = 2 ∧ enterB (ordB ac k) (ac k) = true then [ac k] else []
def bookA (ts : List ActR) : List Ent := ts.foldl enterL []
theorem bookA_snoc (ts : List ActR) (a : ActR) : bookA (ts ++ [a]) = enterL (bookA ts) a := by unfold bookA; rw [List.foldl_append]; rfl
def tstOf (a : ActR) : Tst := ⟨a.nm, a.pr, a.tm, a.lo, a.hi⟩
theorem ent2 {a : ActR} (h : a.k % 8 = 2) : entA a = some (.test (tstOf a)) := by unfold entA; rw [h]; rfl
theorem enter_ok {l : List Ent} {a : ActR} {x : Ent} (hx : entA a = some x) (h : okEnt l x = true) : enterB l a = true ∧ enterL l a = x :: l := by
  unfold enterB okO enterL entO
  rw [hx]
  exact ⟨h, if_pos h⟩
structure OrdI (ac : Nat → ActR) (k : Nat) : Prop where
  good : GoodB (ordB ac k)
  len : (ordB ac k).length ≤ k
  same : SameD (ordB ac k) (bookA (othA ac k))
  tests : testsT (ordB ac k) = ((tstA ac k).map tstOf).reverse
  kinds : ∀ a ∈ tstA ac k, a.k % 8 = 2
  olen : (othA ac k).length ≤ k
  tlen : (tstA ac k).length ≤ k
  blen : (bookA (othA ac k)).length ≤ k
  bgood : GoodB (bookA (othA ac k))
  notest : testsT (bookA (othA ac k)) = []
/-- What is entered into the one book is entered into the other one. -/
theorem oth_step {ac : Nat → ActR} {k : Nat} (h : OrdI ac k) (hk : k ≤ 60) (h1 : (ac k).k % 8 < 2) (hb : enterB (ordB ac k) (ac k) = true) :
    ∃ x, (∀ t, x ≠ .test t) ∧ ordB ac (k + 1) = x :: ordB ac k ∧ enterB (bookA (othA ac k)) (ac k) = true ∧ enterL (bookA (othA ac k)) (ac k) = x :: bookA (othA ac k) ∧ SameD (x :: ordB ac k) (x :: bookA (othA ac k)) := by
  obtain ⟨x, e1, e2, e3⟩ := enterL_true hb
  have hl := h.len
  have hl2 := h.blen
  have hB : ordB ac (k + 1) = x :: ordB ac k := by rw [ordB, if_pos (by omega)]; exact e3
  have hr : (ac k).k % 8 = 0 ∨ (ac k).k % 8 = 1 := by omega
  rcases hr with hr | hr
  · have hx : x = .radar (ac k).nm (ac k).n := by unfold entA at e1; rw [hr] at e1; exact (Option.some.inj e1).symm
    subst hx
    have ho := h.same.ok (x := .radar (ac k).nm (ac k).n) (by omega) (by omega) (fun n o e => by cases e)
    rw [e2] at ho
    obtain ⟨f1, f2⟩ := enter_ok e1 ho.symm
    exact ⟨_, (fun t e => by cases e), hB, f1, f2, h.same.radar _ _⟩
  · have hx : x = .define ⟨(ac k).nm, (ac k).pr, (ac k).lo, (ac k).hi, (ac k).tm, (ac k).un, (ac k).n⟩ := by unfold entA at e1; rw [hr] at e1; exact (Option.some.inj e1).symm
    subst hx
    have ho := h.same.ok (x := .define ⟨(ac k).nm, (ac k).pr, (ac k).lo, (ac k).hi, (ac k).tm, (ac k).un, (ac k).n⟩) (by omega) (by omega) (fun n o e => by cases e)
    rw [e2] at ho
    obtain ⟨f1, f2⟩ := enter_ok e1 ho.symm
    exact ⟨_, (fun t e => by cases e), hB, f1, f2, h.same.define _⟩
theorem tst_step {ac : Nat → ActR} {k : Nat} (h2 : (ac k).k % 8 = 2) (hb : enterB (ordB ac k) (ac k) = true) : ordB ac (k + 1) = .test (tstOf (ac k)) :: ordB ac k ∧ okEnt (ordB ac k) (.test (tstOf (ac k))) = true := by
  obtain ⟨x, e1, e2, e3⟩ := enterL_true hb
  rw [ent2 h2] at e1
  rw [← Option.some.inj e1] at e2 e3
  exact ⟨by rw [ordB, if_pos (by omega)]; exact e3, e2⟩
theorem testsT_cons {x : Ent} {l : List Ent} (h : ∀ t, x ≠ .test t) : testsT (x :: l) = testsT l := by
  cases x with
  | test t => exact absurd rfl (h t)
  | _ => rfl
theorem ordI (ac : Nat → ActR) : ∀ k, k ≤ 60 → OrdI ac k
  | 0, _ => ⟨trivial, Nat.le_refl _, SameD.nil, rfl, (fun a h => by cases h), Nat.le_refl _, Nat.le_refl _, Nat.le_refl _, trivial, rfl⟩
  | k + 1, hk => by
    have ih := ordI ac k (by omega)
    obtain ⟨g1, g2, g3, g4, g5, g6, g7, g8, g9, g10⟩ := ih
    have same : ordB ac (k + 1) = ordB ac k → othA ac (k + 1) = othA ac k → tstA ac (k + 1) = tstA ac k → OrdI ac (k + 1) := fun a b c => by
      constructor
      · rw [a]; exact g1
      · rw [a]; omega
      · rw [a, b]; exact g3
      · rw [a, c]; exact g4
      · rw [c]; exact g5
      · rw [b]; omega
      · rw [c]; omega
      · rw [b]; omega
      · rw [b]; exact g9
      · rw [b]; exact g10
    cases hb : enterB (ordB ac k) (ac k) with
    | false =>
      refine same ?_ ?_ ?_
      · rw [ordB]; split
        · exact enterL_false hb
        · rfl
      · rw [othA, if_neg (by rw [hb]; simp), List.append_nil]
      · rw [tstA, if_neg (by rw [hb]; simp), List.append_nil]
    | true =>
      by_cases h1 : (ac k).k % 8 < 2
      · obtain ⟨x, n1, e1, e2, e3, e4⟩ := oth_step (ordI ac k (by omega)) (by omega) h1 hb
        have hO : othA ac (k + 1) = othA ac k ++ [ac k] := by rw [othA, if_pos ⟨h1, hb⟩]
        have hT : tstA ac (k + 1) = tstA ac k := by rw [tstA, if_neg (by omega), List.append_nil]
        have hb2 : bookA (othA ac (k + 1)) = x :: bookA (othA ac k) := by rw [hO, bookA_snoc]; exact e3
        have hg : GoodB (ordB ac (k + 1)) := by rw [ordB, if_pos (by omega)]; exact enterL_good g1
        have hg2 : GoodB (bookA (othA ac (k + 1))) := by rw [hO, bookA_snoc]; exact enterL_good g9
        constructor
        · exact hg
        · rw [e1, List.length_cons]; omega
        · rw [e1, hb2]; exact e4
        · rw [e1, hT, testsT_cons n1]; exact g4
        · rw [hT]; exact g5
        · rw [hO, List.length_append, List.length_singleton]; omega
        · rw [hT]; omega
        · rw [hb2, List.length_cons]; omega
        · exact hg2
        · rw [hb2, testsT_cons n1]; exact g10
      · by_cases h2 : (ac k).k % 8 = 2
        · obtain ⟨e1, -⟩ := tst_step h2 hb
          have hO : othA ac (k + 1) = othA ac k := by rw [othA, if_neg (by omega), List.append_nil]
          have hT : tstA ac (k + 1) = tstA ac k ++ [ac k] := by rw [tstA, if_pos ⟨h2, hb⟩]
          have hg : GoodB (ordB ac (k + 1)) := by rw [ordB, if_pos (by omega)]; exact enterL_good g1
          constructor
          · exact hg
          · rw [e1, List.length_cons]; omega
          · rw [e1, hO]; exact g3.testL _
          · rw [e1, hT, testsT, g4, List.map_append, List.reverse_append]; rfl
          · rw [hT]
            intro a ha
            rcases List.mem_append.1 ha with h | h
            · exact g5 a h
            · rw [List.mem_singleton.1 h]; exact h2
          · rw [hO]; omega
          · rw [hT, List.length_append, List.length_singleton]; omega
          · rw [hO]; omega
          · rw [hO]; exact g9
          · rw [hO]; exact g10
        · refine same ?_ ?_ ?_
          · rw [ordB, if_neg (by omega)]
          · rw [othA, if_neg (by omega), List.append_nil]
          · rw [tstA, if_neg (by omega), List.append_nil]
/-- A test of a list that was accepted is accepted again, in a book with the same standards. -/
theorem again_ok {l l' : List Ent} {a : ActR} (hg : GoodB l) (hs : SameD l l') (hl : l'.length ≤ 100) (h2 : a.k % 8 = 2) (hm : tstOf a ∈ testsT l) : enterB l' a = true ∧ enterL l' a = .test (tstOf a) :: l' :=
  enter_ok (ent2 h2) (by
    show (testE l' (tstOf a) == 0) = true
    rw [((good_tin hg _ hm).same hs).zero hl hs.wd']
    rfl)
/-- The tests from the last one on. -/
def revB (C : List Ent) (ts : List ActR) (j : Nat) : List Ent := (ts.drop j).reverse.foldl enterL C
theorem revB_end (C : List Ent) (ts : List ActR) : revB C ts ts.length = C := by unfold revB; rw [List.drop_length]; rfl
theorem revB_step (C : List Ent) {ts : List ActR} {j : Nat} {a : ActR} (h : ts[j]? = some a) : revB C ts j = enterL (revB C ts (j + 1)) a := by
  obtain ⟨hj, e⟩ := List.getElem?_eq_some_iff.1 h
  unfold revB
  rw [List.drop_eq_getElem_cons hj, e, List.reverse_cons, List.foldl_append]
  rfl
theorem revB_inv {B C : List Ent} {ts : List ActR} (hg : GoodB B) (hgC : GoodB C) (hs : SameD B C) (hlC : C.length + ts.length ≤ 100) (hnt : testsT C = []) (hk : ∀ a ∈ ts, a.k % 8 = 2) (hm : ∀ a ∈ ts, tstOf a ∈ testsT B) :
    ∀ m j, j + m = ts.length → SameD B (revB C ts j) ∧ GoodB (revB C ts j) ∧ (revB C ts j).length ≤ C.length + m ∧ testsT (revB C ts j) = (ts.drop j).map tstOf
  | 0, j, h => by
    obtain rfl : j = ts.length := by omega
    rw [revB_end, List.drop_length]
    exact ⟨hs, hgC, Nat.le_refl _, hnt⟩
  | m + 1, j, h => by
    obtain ⟨a, b, c, d⟩ := revB_inv hg hgC hs hlC hnt hk hm m (j + 1) (by omega)
    have hj : j < ts.length := by omega
    have ha : ts[j] ∈ ts := List.getElem_mem hj
    obtain ⟨e1, e2⟩ := again_ok hg a (by omega) (hk _ ha) (hm _ ha)
    rw [revB_step C (List.getElem?_eq_getElem hj)]
    refine ⟨by rw [e2]; exact a.testR _, enterL_good b, by rw [e2, List.length_cons]; omega, ?_⟩
    rw [e2, testsT, d, List.drop_eq_getElem_cons hj, List.map_cons]
theorem rev_ok {B C : List Ent} {ts : List ActR} (hg : GoodB B) (hgC : GoodB C) (hs : SameD B C) (hlC : C.length + ts.length ≤ 100) (hnt : testsT C = []) (hk : ∀ a ∈ ts, a.k % 8 = 2) (hm : ∀ a ∈ ts, tstOf a ∈ testsT B) {j : Nat} {a : ActR} (h : ts[j]? = some a) : enterB (revB C ts (j + 1)) a = true := by
  obtain ⟨hj, e⟩ := List.getElem?_eq_some_iff.1 h
  obtain ⟨x, -, y, -⟩ := revB_inv hg hgC hs hlC hnt hk hm (ts.length - (j + 1)) (j + 1) (by omega)
  have ha : a ∈ ts := List.mem_of_getElem? h
  exact (again_ok hg x (by omega) (hk _ ha) (hm _ ha)).1
theorem gainE_perm {l l' : List Ent} (hs : SameD l l') (hg : GoodB l) (hg' : GoodB l') (ht : ∀ t, t ∈ testsT l ↔ t ∈ testsT l') (n : ByteArray) (t : Int) : (gainE l n t).1 = (gainE l' n t).1 ∧ (gainE l n t).2.2 = (gainE l' n t).2.2 := by
  unfold gainE
  rw [hs.drift]
  cases driftT l' n with
  | none => exact ⟨rfl, rfl⟩
  | some d =>
    simp only
    split
    · exact ⟨rfl, rfl⟩
    · refine gainQ_perm fun s => ?_
      rw [sel_map, sel_map, List.take_of_length_le (by rw [testInfo_length]; exact Nat.le_refl _), List.take_of_length_le (by rw [testInfo_length]; exact Nat.le_refl _), info_map hg, info_map hg']
      simp only [List.mem_map, List.mem_filter, List.mem_reverse]
      constructor
      · rintro ⟨x, ⟨⟨u, hu, rfl⟩, h2⟩, rfl⟩
        refine ⟨(u, gainT l' u), ⟨⟨u, (ht u).1 hu, rfl⟩, ?_⟩, by rw [hs.gain]⟩
        simp only [hs.void, hs.sym.void] at h2 ⊢
        exact h2
      · rintro ⟨x, ⟨⟨u, hu, rfl⟩, h2⟩, rfl⟩
        refine ⟨(u, gainT l u), ⟨⟨u, (ht u).2 hu, rfl⟩, ?_⟩, by rw [hs.gain]⟩
        simp only [hs.void, hs.sym.void] at h2 ⊢
        exact h2
theorem orders_same (ac : Nat → ActR) (n : Nat) (hn : n ≤ 40) : SameP (ordB ac n) (revB (bookA (othA ac n)) (tstA ac n) 0) ac n (fun _ => ⟨#[]⟩) 0 := by
  obtain ⟨g1, g2, g3, g4, g5, g6, g7, g8, g9, g10⟩ := ordI ac n (by omega)
  have hm : ∀ a ∈ tstA ac n, tstOf a ∈ testsT (ordB ac n) := fun a ha => by rw [g4, List.mem_reverse]; exact List.mem_map.2 ⟨a, ha, rfl⟩
  obtain ⟨a, b, -, d⟩ := revB_inv g1 g9 g3 (by omega) g10 g5 hm (tstA ac n).length 0 (by omega)
  rw [List.drop_zero] at d
  have ht : ∀ t, t ∈ testsT (ordB ac n) ↔ t ∈ testsT (revB (bookA (othA ac n)) (tstA ac n) 0) := fun t => by rw [g4, d, List.mem_reverse]
  exact ⟨fun i _ _ t => a.valueE _ t, (fun i _ h => by rw [outB_zero] at h; cases h), fun i _ t => gainE_perm a g1 b ht _ t⟩
/-- What a test changes of a gain. -/
structure StepG (g g' : (Int × Int) × (Int × Int) × Int) : Prop where
  f : g'.2.2 = 0 ∨ g'.2.2 = 14
  c : g.2.2 = 14 → g'.2.2 = 14
  le : g'.2.2 = 0 → g'.1.1 ≤ g'.1.2
  in_ : g'.2.2 = 0 → g.2.2 = 0 → g.1.1 ≤ g'.1.1 ∧ g'.1.2 ≤ g.1.2
theorem info_nil {l : List Ent} (h : testsT l = []) : testInfo l = [] := by
  have := testInfo_length l
  rw [h] at this
  exact List.length_eq_zero_iff.1 this
theorem gain_step {ac : Nat → ActR} {k : Nat} (hk : k < 40) (h2 : (ac k).k % 8 = 2) (hb : enterB (ordB ac k) (ac k) = true) :
    StepG (gainE (ordB ac k) (ac k).nm 200000) (gainE (ordB ac (k + 1)) (ac k).nm 200000) ∧
    ((gainE (ordB ac (k + 1)) (ac k).nm 200000).2.2 = 14 → ∃ (i j : Nat) (a0 a1 : ActR), (gainE (ordB ac (k + 1)) (ac k).nm 200000).2.1 = ((i : Int), (j : Int)) ∧ i < j ∧ j < (tstA ac (k + 1)).length ∧ (tstA ac (k + 1))[i]? = some a0 ∧ (tstA ac (k + 1))[j]? = some a1 ∧
      enterB (bookA (othA ac (k + 1))) a0 = true ∧ enterB (enterL (bookA (othA ac (k + 1))) a0) a1 = true ∧ gainE (enterL (enterL (bookA (othA ac (k + 1))) a0) a1) (ac k).nm 200000 = ((0, 0), (0, 1), 14)) := by
  have hI := ordI ac k (by omega)
  obtain ⟨g1, g2, g3, g4, g5, g6, g7, g8, g9, g10⟩ := ordI ac (k + 1) (by omega)
  obtain ⟨e1, e2⟩ := tst_step h2 hb
  have hti : TestIn (ordB ac k) (tstOf (ac k)) := testE_in (by unfold okEnt at e2; simpa using e2)
  obtain ⟨⟨d, hd⟩, -⟩ := hti
  have hnm : (tstOf (ac k)).radar = (ac k).nm := rfl
  rw [hnm] at hd
  generalize hnn : (ac k).nm = nm at *
  have hd' : driftT (ordB ac (k + 1)) nm = some d := by rw [e1]; exact hd
  have hv' : ∀ m, voidT (ordB ac (k + 1)) m = false := g3.void
  have hr : inR 200000 0 4294967296 = true := by decide
  have hT' : testInfo (ordB ac (k + 1)) = testInfo (ordB ac k) ++ [(tstOf (ac k), gainT (ordB ac k) (tstOf (ac k)))] := by rw [e1, testInfo]
  have hvv : voidT (ordB ac (k + 1)) = voidT (ordB ac k) := by rw [e1]; rfl
  have hlen : (testsT (ordB ac (k + 1))).length = (testsT (ordB ac k)).length + 1 := by rw [e1]; rfl
  obtain ⟨q, hq⟩ : ∃ q, selN (testInfo (ordB ac k)) nm (voidT (ordB ac k)) d 200000 (testsT (ordB ac k)).length = q := ⟨_, rfl⟩
  obtain ⟨q', hq'⟩ : ∃ q', selN (testInfo (ordB ac (k + 1))) nm (voidT (ordB ac (k + 1))) d 200000 (testsT (ordB ac (k + 1))).length = q' := ⟨_, rfl⟩
  have hE : gainE (ordB ac k) nm 200000 = gainQ q := by unfold gainE; rw [hd]; simp only; rw [hr, hq]; rfl
  have hE' : gainE (ordB ac (k + 1)) nm 200000 = gainQ q' := by unfold gainE; rw [hd']; simp only; rw [hr, hq']; rfl
  have hsub : ∀ s ∈ q.map (·.2), s ∈ q'.map (·.2) := fun s hs => by
    rw [← hq', hlen, selN, List.map_append, hT', hvv, selN_app _ _ _ _ _ _ _ (by rw [testInfo_length]; exact Nat.le_refl _), hq]
    exact List.mem_append_left _ hs
  have hne : q'.length ≠ 0 := by
    intro e
    have hlast : (testInfo (ordB ac (k + 1)))[(testsT (ordB ac k)).length]? = some (tstOf (ac k), gainT (ordB ac k) (tstOf (ac k))) := by
      rw [hT', List.getElem?_append_right (by rw [testInfo_length]; exact Nat.le_refl _), testInfo_length, Nat.sub_self]; rfl
    have : (selN (testInfo (ordB ac (k + 1))) nm (voidT (ordB ac (k + 1))) d 200000 ((testsT (ordB ac k)).length + 1)).length ≠ 0 := by
      rw [selN, hlast, List.length_append]
      simp only [hnm, hnn, hv', and_self, if_true, List.length_singleton]
      omega
    rw [← hlen, hq'] at this
    exact this e
  obtain ⟨num, pw⟩ := selN_num (testInfo (ordB ac (k + 1))) nm (voidT (ordB ac (k + 1))) d 200000 (testsT (ordB ac (k + 1))).length
  rw [hq'] at num pw
  have hdb := drift_bd g1 hd'
  have hinf := info_map g1
  have hle : ∀ y ∈ q', y.2.1 ≤ y.2.2 := fun y hy => by
    obtain ⟨-, x, hx, -, e⟩ := num y hy
    rw [e]
    have hxm := List.mem_of_getElem? hx
    rw [hinf] at hxm
    obtain ⟨t, ht, rfl⟩ := List.mem_map.1 hxm
    have htin := good_tin g1 t (List.mem_reverse.1 ht)
    obtain ⟨l1, l2⟩ := gain_le g1 htin
    obtain ⟨t0, t1⟩ := inR_iff.1 htin.2.1
    exact (widenS_bd (s := gainT (ordB ac (k + 1)) t) hdb.1 hdb.2 t0 t1 (by omega) (by omega) l2 (by omega)).2.1
  rw [hE, hE']
  by_cases hm : (meetQ q' q'.length).1 ≤ (meetQ q' q'.length).2
  · rw [gainQ_meet hne hm]
    refine ⟨⟨.inl rfl, fun hc => ?_, fun _ => hm, fun _ h0 => ?_⟩, fun h => by simp at h⟩
    · by_cases h0 : q.length = 0
      · rw [gainQ_empty h0] at hc; simp at hc
      · obtain ⟨a1, a2⟩ := meet_sub (by omega) hsub
        rw [gainQ_meet h0 (by omega)] at hc
        simp at hc
    · by_cases hq0 : q.length = 0
      · rw [gainQ_empty hq0] at h0; simp at h0
      · obtain ⟨a1, a2⟩ := meet_sub (by omega) hsub
        rw [gainQ_meet hq0 (by omega)]
        exact ⟨a1, a2⟩
  · obtain ⟨i, j, hf, hij, hj, hoff⟩ := off_pair hne hle hm
    rw [gainQ_off hne hm, hf]
    refine ⟨⟨.inr rfl, fun _ => rfl, fun h => by simp at h, fun h => by simp at h⟩, fun _ => ?_⟩
    have y0m := getD_mem (show i < q'.length by omega)
    have y1m := getD_mem hj
    obtain ⟨-, x0, hx0, r0, s0⟩ := num _ y0m
    obtain ⟨-, x1, hx1, r1, s1⟩ := num _ y1m
    have hlt : (q'.getD i (0, (0, 0))).1 < (q'.getD j (0, (0, 0))).1 := by
      have := List.pairwise_iff_getElem.1 pw i j (by omega) hj hij
      rw [List.getD_eq_getElem?_getD, List.getD_eq_getElem?_getD, List.getElem?_eq_getElem (show i < q'.length by omega), List.getElem?_eq_getElem hj]
      exact this
    have hinf2 : testInfo (ordB ac (k + 1)) = (tstA ac (k + 1)).map fun a => (tstOf a, gainT (ordB ac (k + 1)) (tstOf a)) := by
      rw [hinf, g4, List.reverse_reverse, List.map_map]; rfl
    have get : ∀ z x, (testInfo (ordB ac (k + 1)))[z]? = some x → ∃ a, (tstA ac (k + 1))[z]? = some a ∧ x = (tstOf a, gainT (ordB ac (k + 1)) (tstOf a)) := fun z x hx => by
      rw [hinf2, List.getElem?_map] at hx
      cases ha : (tstA ac (k + 1))[z]? with
      | none => rw [ha] at hx; cases hx
      | some a => rw [ha] at hx; exact ⟨a, ha, (Option.some.inj hx).symm⟩
    obtain ⟨a0, ha0, rfl⟩ := get _ _ hx0
    obtain ⟨a1, ha1, rfl⟩ := get _ _ hx1
    have m0 : a0 ∈ tstA ac (k + 1) := List.mem_of_getElem? ha0
    have m1 : a1 ∈ tstA ac (k + 1) := List.mem_of_getElem? ha1
    have hm' : ∀ a ∈ tstA ac (k + 1), tstOf a ∈ testsT (ordB ac (k + 1)) := fun a ha => by rw [g4, List.mem_reverse]; exact List.mem_map.2 ⟨a, ha, rfl⟩
    obtain ⟨u1, u2⟩ := again_ok g1 g3 (by omega) (g5 _ m0) (hm' _ m0)
    have s2 := g3.testR (tstOf a0)
    obtain ⟨u3, u4⟩ := again_ok g1 s2 (by rw [List.length_cons]; omega) (g5 _ m1) (hm' _ m1)
    refine ⟨(q'.getD i (0, (0, 0))).1, (q'.getD j (0, (0, 0))).1, a0, a1, rfl, hlt, (List.getElem?_eq_some_iff.1 ha1).1, ha0, ha1, u1, by rw [u2]; exact u3, ?_⟩
    rw [u2, u4]
    have hC : driftT (.test (tstOf a1) :: .test (tstOf a0) :: bookA (othA ac (k + 1))) nm = some d := by rw [← hd', g3.drift]; rfl
    have s3 := s2.testR (tstOf a1)
    have hti2 : testInfo (.test (tstOf a1) :: .test (tstOf a0) :: bookA (othA ac (k + 1))) = [(tstOf a0, gainT (ordB ac (k + 1)) (tstOf a0)), (tstOf a1, gainT (ordB ac (k + 1)) (tstOf a1))] := by
      rw [testInfo, testInfo, info_nil g10, ← g3.gain, ← s2.gain]; rfl
    have hle2 : (testsT (.test (tstOf a1) :: .test (tstOf a0) :: bookA (othA ac (k + 1)))).length = 2 := by rw [testsT, testsT, g10]; rfl
    unfold gainE
    rw [hC]
    simp only
    rw [hr, if_neg (by decide), hti2, hle2, selN, selN, selN]
    have v0 := s3.sym.void
    simp only at r0 r1
    simp only [List.getElem?_cons_zero, List.getElem?_cons_succ, r0, r1, v0, and_self, if_true, List.nil_append]
    refine gainQ_two ?_
    unfold offQ at hoff
    rw [s1] at hoff
    rw [s0] at hoff
    exact hoff
theorem oth_mem {ac : Nat → ActR} : ∀ {k : Nat} {a : ActR}, a ∈ othA ac k → ∃ i, a = ac i
  | 0, a, h => by cases h
  | k + 1, a, h => by
    rw [othA] at h
    rcases List.mem_append.1 h with h | h
    · exact oth_mem h
    · split at h
      · exact ⟨k, List.mem_singleton.1 h⟩
      · cases h
theorem tst_mem {ac : Nat → ActR} : ∀ {k : Nat} {a : ActR}, a ∈ tstA ac k → ∃ i, a = ac i
  | 0, a, h => by cases h
  | k + 1, a, h => by
    rw [tstA] at h
    rcases List.mem_append.1 h with h | h
    · exact tst_mem h
    · split at h
      · exact ⟨k, List.mem_singleton.1 h⟩
      · cases h
theorem bookA_take {ts : List ActR} {y : Nat} {a : ActR} (h : ts[y]? = some a) : bookA (ts.take (y + 1)) = enterL (bookA (ts.take y)) a := by
  obtain ⟨hy, e⟩ := List.getElem?_eq_some_iff.1 h
  rw [List.take_succ_eq_append_getElem hy, bookA_snoc, e]
end Go.Proofs.Ytiggefmckomilaa
namespace Go.Proofs.Ytiggefmckomilaa
open Go Go.RowKit

/-- A slice that reads as some values, below a block. -/
def ListAt (w : World) (B : Nat) (A : Option Addr) (q : List Value) : Prop := 0 < q.length → ∃ b off, A = some ⟨b, off, none⟩ ∧ b < B ∧ ∀ (i : Nat) (v : Value), q[i]? = some v → w.cell? ⟨b, off + i, none⟩ = some v
theorem ListAt.later {w w' : World} {B B' : Nat} {A : Option Addr} {q : List Value} (h : ListAt w B A q) (hb : Below B w w') (hB : B ≤ B') : ListAt w' B' A q := fun hn => by
  obtain ⟨b, off, e, hl, hc⟩ := h hn
  exact ⟨b, off, e, by omega, fun i s hs => (hb.cell hl).trans (hc i s hs)⟩
theorem ListAt.blk {w : World} {g : Nat} {t : TypeId} {cs : Array Value} {q : List Value} (h : Blk w g t cs) (hq : cs.toList = q) : ListAt w w.heap.size (some ⟨g, 0, none⟩) q := fun _ => by
  subst hq
  exact ⟨g, 0, rfl, h.lt, fun i v hv => by rw [Nat.zero_add]; exact h.c i (by rw [← hv]; exact (Array.getElem?_toList).symm)⟩
theorem ListAt.own {w : World} {base n c : Nat} {t : TypeId} {A : Option Addr} {xs : List Value} (h : w.ownsRow base t 1 (.slice A n c) n xs) (hn : xs.length = n) : ListAt w w.heap.size A xs := fun h0 => by
  obtain ⟨b, cur, rfl, -, hb, -, -, hc⟩ := row_blk h (by omega)
  exact ⟨b, 0, rfl, hb.lt, fun i v hv => by rw [Nat.zero_add]; exact hb.c i (hc i v hv)⟩
set_option maxHeartbeats 1000000 in
set_option maxRecDepth 100000 in
theorem texts_any (A B : Option Addr) (n m c d : Nat) (q : List ByteArray) (w : World) (hn : q.length = n) (hm : q.length = m) (hmax : n ≤ 1000) (h : ListAt w w.heap.size A (strV q)) (h2 : ListAt w w.heap.size B (strV q)) :
    Calls Try.prog 43 #[.slice A n c, .slice B m d] w fun e w' => e = .returned (.bool true) ∧ Below w.heap.size w w' := by
  subst hm
  subst hn
  have hln : (strV q).length = q.length := by unfold strV; simp
  obtain ⟨n, hN⟩ : ∃ n, q.length = n := ⟨_, rfl⟩
  rw [hN] at hmax hln ⊢
  have H := hide h
  have H2 := hide h2
  have Hln := hide hln
  have HN := hide hN
  clear h h2 hln hN
  go_enter Try.func43, Try.ntmps43
  go_wp2_with fail
  go_loopw [5] (fun i wr => ∃ k : Nat, k ≤ n ∧ i = .int .i64 k ∧ Below w.heap.size w wr) (fun i _ => n - (intOf i).toNat)
  case atStart => exact ⟨0, by omega, rfl, Below.refl _ _⟩
  case round =>
    obtain ⟨k, hk, rfl, hB⟩ := hrel
    have HB := hide hB
    clear hB
    by_cases hlt : k < n
    · obtain ⟨b, off, rfl, hb, hc⟩ := (H.out.later HB.out HB.out.size) (by have := Hln.out; omega)
      obtain ⟨b2, off2, rfl, hb2, hc2⟩ := (H2.out.later HB.out HB.out.size) (by have := Hln.out; omega)
      have hlt2 : (k : Int) < n := by omega
      obtain ⟨y, hy⟩ : ∃ y, q[k]? = some y := ⟨_, List.getElem?_eq_getElem (by have := HN.out; omega)⟩
      have hy2 : (strV q)[k]? = some (.string y) := by unfold strV; rw [List.getElem?_map, hy]; rfl
      have c0 := hc k _ hy2
      have c2 := hc2 k _ hy2
      clear hc hc2 hy hy2
      have heq : (y.toList == y.toList) = true := beq_self_eq_true _
      go_wp2_with fail
      go_quiet (fail)
      have hL : Below wr.heap.size wr (wr.drewN nq) := below_drewN (Below.refl _ _) _
      generalize (wr.drewN nq : World) = w2 at hL ⊢
      clear c0 c2 hb hb2
      replace HB := hide (onward HB.out hL)
      clear hL
      go_wp2_with fail
      go_roundw
      case rel => exact ⟨k + 1, by omega, by go_num, HB.out⟩
      case measure => simp [intOf] <;> omega
    · have hkn : k = n := by omega
      subst hkn
      go_wp2
      go_ret
      exact ⟨rfl, HB.out⟩
set_option maxHeartbeats 1000000 in
set_option maxRecDepth 100000 in
theorem ints_any (A B : Option Addr) (n m c d : Nat) (q : List Value) (w : World) (hn : q.length = n) (hm : q.length = m) (hmax : n ≤ 1000) (hq : ∀ v ∈ q, ∃ z, v = .int .i64 z) (h : ListAt w w.heap.size A q) (h2 : ListAt w w.heap.size B q) :
    Calls Try.prog 44 #[.slice A n c, .slice B m d] w fun e w' => e = .returned (.bool true) ∧ Below w.heap.size w w' := by
  subst hm
  subst hn
  obtain ⟨n, hN⟩ : ∃ n, q.length = n := ⟨_, rfl⟩
  rw [hN] at hmax ⊢
  have H := hide h
  have H2 := hide h2
  have HN := hide hN
  have Hq := hide hq
  clear h h2 hN hq
  go_enter Try.func44, Try.ntmps44
  go_wp2_with fail
  go_loopw [5] (fun i wr => ∃ k : Nat, k ≤ n ∧ i = .int .i64 k ∧ Below w.heap.size w wr) (fun i _ => n - (intOf i).toNat)
  case atStart => exact ⟨0, by omega, rfl, Below.refl _ _⟩
  case round =>
    obtain ⟨k, hk, rfl, hB⟩ := hrel
    have HB := hide hB
    clear hB
    by_cases hlt : k < n
    · obtain ⟨b, off, rfl, hb, hc⟩ := (H.out.later HB.out HB.out.size) (by have := HN.out; omega)
      obtain ⟨b2, off2, rfl, hb2, hc2⟩ := (H2.out.later HB.out HB.out.size) (by have := HN.out; omega)
      have hlt2 : (k : Int) < n := by omega
      obtain ⟨y, hy⟩ : ∃ y, q[k]? = some y := ⟨_, List.getElem?_eq_getElem (by have := HN.out; omega)⟩
      obtain ⟨z, rfl⟩ := Hq.out _ (List.mem_of_getElem? hy)
      have c0 := hc k _ hy
      have c2 := hc2 k _ hy
      clear hc hc2 hy
      go_wp2_with fail
      go_quiet (fail)
      have hL : Below wr.heap.size wr (wr.drewN nq) := below_drewN (Below.refl _ _) _
      generalize (wr.drewN nq : World) = w2 at hL ⊢
      clear c0 c2 hb hb2
      replace HB := hide (onward HB.out hL)
      clear hL
      go_wp2_with fail
      go_roundw
      case rel => exact ⟨k + 1, by omega, by go_num, HB.out⟩
      case measure => simp [intOf] <;> omega
    · have hkn : k = n := by omega
      subst hkn
      go_wp2
      go_ret
      exact ⟨rfl, HB.out⟩
end Go.Proofs.Ytiggefmckomilaa
namespace Go.Proofs.Ytiggefmckomilaa
open Go.RowKit

theorem Down_any (a b : Int) (w : World) (ha1 : -4611686018427387903 ≤ a) (hb : 1 ≤ b) (ha2 : a ≤ 4611686018427387903) (_hb2 : b ≤ 4611686018427387903) :
    Calls Try.prog 56 #[.int .i64 a, .int .i64 b] w fun e w' => e = .returned (.int .i64 (a / b)) ∧ w = w' := by
  have hq := tdiv_floor (a := a) (b := b) (by omega)
  by_cases ha : 0 ≤ a
  · have h1 : 0 ≤ a / b := Int.ediv_nonneg ha (by omega)
    have h2 : a / b ≤ a := Int.ediv_le_self b ha
    have h3 : 0 ≤ a % b := Int.emod_nonneg _ (by omega)
    clear hq
    go_enter Try.func56, Try.ntmps56
    go_wp2
    go_ret
    exact ⟨rfl, rfl⟩
  · have h2 : -a / b ≤ -a := Int.ediv_le_self b (by omega)
    have h3 : 0 ≤ -a / b := Int.ediv_nonneg (by omega) (by omega)
    have e1 : a.tdiv b = -(-a / b) := by rw [← Int.neg_neg a, Int.neg_tdiv, Int.neg_neg, Int.tdiv_eq_ediv_of_nonneg (by omega)]
    have h4 : -4611686018427387903 ≤ a.tdiv b := by omega
    have h5 : a.tdiv b ≤ 0 := by omega
    clear e1 h2 h3
    have Hq := hide hq
    clear hq
    go_enter Try.func56, Try.ntmps56
    go_wp2
    all_goals
      go_ret
      exact ⟨ret_int (by rw [Hq.out]; first | rw [if_pos (by assumption)] | rw [if_neg (by omega)]), rfl⟩

theorem Up_any (a b : Int) (w : World) (ha1 : -4611686018427387903 ≤ a) (hb : 1 ≤ b) (ha2 : a ≤ 4611686018427387903) (hb2 : b ≤ 4611686018427387903) :
    Calls Try.prog 57 #[.int .i64 a, .int .i64 b] w fun e w' => e = .returned (.int .i64 (cdiv a b)) ∧ w = w' := by
  have h1 : -4611686018427387903 ≤ -a / b ∧ -a / b ≤ 4611686018427387903 := by
    constructor
    · have := (Int.le_ediv_iff_mul_le (a := -4611686018427387903) (b := -a) (c := b) (by omega)).2 (by omega)
      exact this
    · by_cases h : 0 ≤ -a
      · have := Int.ediv_le_self b h; omega
      · have : -a / b ≤ 0 := by
          have := Int.ediv_lt_of_lt_mul (a := -a) (b := 1) (c := b) (by omega) (by omega)
          omega
        omega
  obtain ⟨h2, h3⟩ := h1
  go_enter Try.func57, Try.ntmps57
  go_wp2_with (go_at_call 56; refine (Down_any _ _ _ (by omega) hb (by omega) hb2).mono ?_; rintro e w' ⟨rfl, rfl⟩)
  go_ret
  exact ⟨rfl, rfl⟩
end Go.Proofs.Ytiggefmckomilaa
namespace Go.Proofs.Ytiggefmckomilaa
open Go Go.RowKit

theorem RefValid_any (a b lo hi : Int) (w : World) :
    Calls Try.prog 55 #[.agg #[.int .i64 a, .int .i64 b], .int .i64 lo, .int .i64 hi] w fun e w' => e = .returned (.bool (inS a b lo hi)) ∧ Below w.heap.size w w' := by
  by_cases h1 : a ≤ b <;> by_cases h2 : lo ≤ a <;> by_cases h3 : b ≤ hi
  all_goals
    go_enter Try.func55, Try.ntmps55
    go_wp2
    go_ret
    exact ⟨by simp [inS, *], (Below.refl _ _).alloc (Nat.le_refl _) _⟩
def correctR (p g : Int × Int) : (Int × Int) × Int :=
  if (inS p.1 p.2 0 1073741824 && inS g.1 g.2 1 1000000) = true then ((min 1073741824 (1000 * p.1 / g.2), min 1073741824 (upD (1000 * p.2) g.1)), 0) else ((0, 0), 3)
def corrV (r : (Int × Int) × Int) : Value := .tuple #[.agg #[.int .i64 r.1.1, .int .i64 r.1.2], .int .i64 r.2]
theorem upD_cdiv {a b : Int} (h : 0 < b) : upD a b = cdiv a b := (cdiv_eq h).symm

set_option maxHeartbeats 1000000 in
set_option maxRecDepth 100000 in
theorem Correct_any (p1 p2 g1 g2 : Int) (w : World) :
    Calls Try.prog 13 #[.agg #[.int .i64 p1, .int .i64 p2], .agg #[.int .i64 g1, .int .i64 g2]] w fun e w' => e = .returned (corrV (correctR (p1, p2) (g1, g2))) ∧ Below w.heap.size w w' := by
  have hR : correctR (p1, p2) (g1, g2) = if (inS p1 p2 0 1073741824 && inS g1 g2 1 1000000) = true then ((min 1073741824 (1000 * p1 / g2), min 1073741824 (upD (1000 * p2) g1)), 0) else ((0, 0), 3) := rfl
  generalize correctR (p1, p2) (g1, g2) = r at *
  by_cases h1 : inS p1 p2 0 1073741824 = true
  · by_cases h2 : inS g1 g2 1 1000000 = true
    · rw [if_pos (by rw [h1, h2]; rfl)] at hR
      obtain ⟨a1, a2, a3⟩ := inS_iff.1 h1
      obtain ⟨b1, b2, b3⟩ := inS_iff.1 h2
      have k1 : 0 ≤ 1000 * p1 / g2 := Int.ediv_nonneg (by omega) (by omega)
      have k2 : 1000 * p1 / g2 ≤ 1000 * p1 := Int.ediv_le_self _ (by omega)
      have hu := fun W => up_any (1000 * p2) g1 W (by omega) (by omega) (by omega) (by omega)
      have hu2 := fun W => Up_any (1000 * p2) g1 W (by omega) (by omega) (by omega) (by omega)
      have hd := fun W => Down_any (1000 * p1) g2 W (by omega) (by omega) (by omega) (by omega)
      rw [← upD_cdiv (by omega)] at hu2
      obtain ⟨u, hue⟩ : ∃ u, upD (1000 * p2) g1 = u := ⟨_, rfl⟩
      rw [hue] at hu hu2 hR
      obtain ⟨n1, hn1⟩ : ∃ n1, min 1073741824 (1000 * p1 / g2) = n1 := ⟨_, rfl⟩
      obtain ⟨n2, hn2⟩ : ∃ n2, min 1073741824 u = n2 := ⟨_, rfl⟩
      rw [hn1, hn2] at hR
      have hn1' : (if 1000 * p1 / g2 < 1073741824 then 1000 * p1 / g2 else 1073741824) = n1 := by rw [← hn1]; split <;> omega
      have hn2' : (if u < 1073741824 then u else 1073741824) = n2 := by rw [← hn2]; split <;> omega
      clear hue
      have Hu := hide hu
      have Hu2 := hide hu2
      have Hd := hide hd
      have HR := hide hR
      clear hu hu2 hd hR
      go_enter Try.func13, Try.ntmps13
      have HB := hide (Below.refl w.heap.size w)
      go_wp2_with fail
      refine at_world fun w1 hW => ?_
      have bq0 : Blk w1 w.heap.size 23 #[.int .i64 p1, .int .i64 p2] := by rw [hW]; exact ((Blk.new _ _ _).alloc _).alloc _
      have bq1 : Blk w1 (w.heap.size + 1) 23 #[.int .i64 g1, .int .i64 g2] := by rw [hW]; exact (blk_new_at (by simp)).alloc _
      have bq2 : Blk w1 (w.heap.size + 2) 23 #[.int .i64 0, .int .i64 0] := by rw [hW]; exact blk_new_at (by simp)
      have LW : Later w w1 := by rw [hW]; exact ((((Below.refl _ _).alloc (Nat.le_refl _) _).alloc (by simp; try omega) _).alloc (by simp; try omega) _)
      have szW : w1.heap.size = w.heap.size + 3 := by rw [hW]; simp
      clear hW
      replace HB := hide (onward HB.out LW)
      have Hp := hide bq0
      have Hg := hide bq1
      have Ho := hide bq2
      clear bq0 bq1 bq2 LW szW
      refine (inside_any _ _ _ _ _).mono ?_
      rintro e w2 ⟨rfl, hb⟩
      replace HB := hide (onward HB.out hb)
      replace Hp := hide (blk_later Hp.out hb)
      replace Hg := hide (blk_later Hg.out hb)
      replace Ho := hide (blk_later Ho.out hb)
      clear hb
      rw [h1]
      obtain ⟨y0, y1⟩ := Hg.out.c2
      have lty := Hg.out.lt
      go_wp2_with fail
      refine (inside_any _ _ _ _ _).mono ?_
      rintro e w3 ⟨rfl, hb⟩
      replace HB := hide (onward HB.out hb)
      replace Hp := hide (blk_later Hp.out hb)
      replace Hg := hide (blk_later Hg.out hb)
      replace Ho := hide (blk_later Ho.out hb)
      clear hb y0 y1 lty
      rw [h2]
      obtain ⟨y0, y1⟩ := Hg.out.c2
      have lty := Hg.out.lt
      obtain ⟨x0, x1⟩ := Hp.out.c2
      have ltx := Hp.out.lt
      go_wp2_with fail
      have lto := Ho.out.lt
      apply wp_region_F (w0 := w3) [[], [0], [0, 1], [], [3], [0, 1, 2, 3, 4], [0, 1, 2, 3, 4, 5], [], [7], [7, 8], [], [10], [7, 8, 9, 10, 11], [7, 8, 9, 10, 11, 12], [0, 1, 2, 3, 4, 5, 6, 7, 8, 9, 10, 11, 12, 13], [0, 1, 2, 3, 4, 5, 6, 7, 8, 9, 10, 11, 12, 13, 14], [0, 1, 2, 3, 4, 5, 6, 7, 8, 9, 10, 11, 12, 13, 14, 15]] [true, true, true, true, true, true, true, true, true, true, true, true, true, true, true, false, false] [false, false, false, false, false, false, false, false, false, false, false, false, false, false, false, false, true] [⟨15, none, [], []⟩] [(15, (w.heap.size+2))] [15] (fun ixq y => match ixq with | 15 => undef | _ => undef) (fun ixq x F wq => match ixq with | 15 => F (w.heap.size+2) ∧ Blk wq (w.heap.size+2) 23 #[.int .i64 n1, .int .i64 n2] | _ => True) (fun a x => (a).put (none) (undef)) (by kernel_rfl) (by kernel_rfl) (by kernel_rfl) (fun _ => rfl) [27] (by kernel_rfl) (fills_lt1 (by omega)) fills_ne1
      · intro x D hD
        have hne := hD.some
        have k0 := liftS hD x0 (by exact early_all (by first | assumption | omega) (by rfl))
        have k1 := liftS hD x1 (by exact early_all (by first | assumption | omega) (by rfl))
        have k2 := liftS hD y0 (by exact early_all (by first | assumption | omega) (by rfl))
        have k3 := liftS hD y1 (by exact early_all (by first | assumption | omega) (by rfl))
        simp only [takeOps, Act.put, List.setIfInBounds_toArray, List.set_cons_succ, List.set_cons_zero]
        repeat (go_big_quiet_step ((first | (go_at_call 54; exact calls_same _ (Hu.out _)) | (go_at_call 56; exact calls_same _ (Hd.out _)) | (go_at_call 57; exact calls_same _ (Hu2.out _)))))
        exact wpQuiet_nil rfl
      · intro x D hD
        have hne := hD.some
        simp only [takeOps, Act.put, List.setIfInBounds_toArray, List.set_cons_succ, List.set_cons_zero]
        repeat (go_big_quiet_step ((first | (go_at_call 54; exact calls_same _ (Hu.out _)) | (go_at_call 56; exact calls_same _ (Hd.out _)) | (go_at_call 57; exact calls_same _ (Hu2.out _)))))
        exact wpQuiet_nil rfl
      · intro d hd x x'
        simp only [List.mem_cons, List.not_mem_nil, or_false] at hd
        rcases hd with rfl
        all_goals rfl
      · refine ⟨?_, trivial⟩
        · exact obl_fill 23 23 4 29 (w.heap.size+2) _ (fun x => #[.int .i64 n1, .int .i64 n2]) (by kernel_rfl) (fun _ => rfl) (fun _ => rfl) Ho.out eb_fill1 (by simp [wrF]) (fun _ => by kernel_rfl) (fun _ => rfl) (fun _ => by simp [Value.oneCell']) (fun _ => rfl) (fun _ _ _ _ h1 h2 => ⟨h1, h2⟩)
      · refine ⟨?_, trivial⟩
        · exact owe_fill (w.heap.size+2) 23 (fun x => #[.int .i64 n1, .int .i64 n2]) (fun _ _ _ => rfl) (fun _ _ _ => rfl)
      intro xr w4 F hK hlv1
      obtain ⟨fct15, -⟩ := hlv1
      replace fct15 : (F 15) (w.heap.size+2) ∧ Blk w4 (w.heap.size+2) 23 #[.int .i64 n1, .int .i64 n2] := fct15 rfl
      have hbr := below_kept HB.out HB.out.size hK (by simp)
      have ho4 := fct15.2
      obtain ⟨e0, e1⟩ := ho4.c2
      have fe0 := ho4.frozen 0
      have fe1 := ho4.frozen 1
      have lte := ho4.lt
      go_wp2
      refine bodyPost_ret (v := corrV r) (by rw [HR.out]; simp [corrV, results, Try.results13, go_sem, e0, e1, fe0, fe1, lte]) rfl ⟨rfl, hbr⟩
    · have h3 : inS g1 g2 1 1000000 = false := by simpa using h2
      rw [if_neg (by rw [h3]; simp)] at hR
      have HR := hide hR
      clear hR
      go_enter Try.func13, Try.ntmps13
      have HB := hide (Below.refl w.heap.size w)
      go_wp2_with fail
      refine at_world fun w1 hW => ?_
      have bq0 : Blk w1 w.heap.size 23 #[.int .i64 p1, .int .i64 p2] := by rw [hW]; exact ((Blk.new _ _ _).alloc _).alloc _
      have bq1 : Blk w1 (w.heap.size + 1) 23 #[.int .i64 g1, .int .i64 g2] := by rw [hW]; exact (blk_new_at (by simp)).alloc _
      have bq2 : Blk w1 (w.heap.size + 2) 23 #[.int .i64 0, .int .i64 0] := by rw [hW]; exact blk_new_at (by simp)
      have LW : Later w w1 := by rw [hW]; exact ((((Below.refl _ _).alloc (Nat.le_refl _) _).alloc (by simp; try omega) _).alloc (by simp; try omega) _)
      have szW : w1.heap.size = w.heap.size + 3 := by rw [hW]; simp
      clear hW
      replace HB := hide (onward HB.out LW)
      have Hp := hide bq0
      have Hg := hide bq1
      have Ho := hide bq2
      clear bq0 bq1 bq2 LW szW
      refine (inside_any _ _ _ _ _).mono ?_
      rintro e w2 ⟨rfl, hb⟩
      replace HB := hide (onward HB.out hb)
      replace Hp := hide (blk_later Hp.out hb)
      replace Hg := hide (blk_later Hg.out hb)
      replace Ho := hide (blk_later Ho.out hb)
      clear hb
      rw [h1]
      obtain ⟨y0, y1⟩ := Hg.out.c2
      have lty := Hg.out.lt
      go_wp2_with fail
      refine (inside_any _ _ _ _ _).mono ?_
      rintro e w3 ⟨rfl, hb⟩
      replace HB := hide (onward HB.out hb)
      replace Hp := hide (blk_later Hp.out hb)
      replace Hg := hide (blk_later Hg.out hb)
      replace Ho := hide (blk_later Ho.out hb)
      clear hb y0 y1 lty
      rw [h3]
      obtain ⟨e0, e1⟩ := Ho.out.c2
      have lte := Ho.out.lt
      have fe0 := Ho.out.frozen 0
      have fe1 := Ho.out.frozen 1
      go_wp2
      refine bodyPost_ret (v := corrV r) (by rw [HR.out]; simp [corrV, results, Try.results13, go_sem, e0, e1, fe0, fe1, lte]) rfl ⟨rfl, ?_⟩
      repeat (first | exact HB.out | (refine Below.setCell ?_ (by first | omega | (simp; done) | (simp; omega)) _) | (refine Below.alloc ?_ (by first | omega | (simp; done) | (simp; omega)) _) | (refine below_drewN ?_ _))
  · have h3 : inS p1 p2 0 1073741824 = false := by simpa using h1
    rw [if_neg (by rw [h3]; simp)] at hR
    have HR := hide hR
    clear hR
    go_enter Try.func13, Try.ntmps13
    have HB := hide (Below.refl w.heap.size w)
    go_wp2_with fail
    refine at_world fun w1 hW => ?_
    have bq0 : Blk w1 w.heap.size 23 #[.int .i64 p1, .int .i64 p2] := by rw [hW]; exact ((Blk.new _ _ _).alloc _).alloc _
    have bq1 : Blk w1 (w.heap.size + 1) 23 #[.int .i64 g1, .int .i64 g2] := by rw [hW]; exact (blk_new_at (by simp)).alloc _
    have bq2 : Blk w1 (w.heap.size + 2) 23 #[.int .i64 0, .int .i64 0] := by rw [hW]; exact blk_new_at (by simp)
    have LW : Later w w1 := by rw [hW]; exact ((((Below.refl _ _).alloc (Nat.le_refl _) _).alloc (by simp; try omega) _).alloc (by simp; try omega) _)
    have szW : w1.heap.size = w.heap.size + 3 := by rw [hW]; simp
    clear hW
    replace HB := hide (onward HB.out LW)
    have Hp := hide bq0
    have Hg := hide bq1
    have Ho := hide bq2
    clear bq0 bq1 bq2 LW szW
    refine (inside_any _ _ _ _ _).mono ?_
    rintro e w2 ⟨rfl, hb⟩
    replace HB := hide (onward HB.out hb)
    replace Hp := hide (blk_later Hp.out hb)
    replace Hg := hide (blk_later Hg.out hb)
    replace Ho := hide (blk_later Ho.out hb)
    clear hb
    rw [h3]
    obtain ⟨e0, e1⟩ := Ho.out.c2
    have lte := Ho.out.lt
    have fe0 := Ho.out.frozen 0
    have fe1 := Ho.out.frozen 1
    go_wp2
    refine bodyPost_ret (v := corrV r) (by rw [HR.out]; simp [corrV, results, Try.results13, go_sem, e0, e1, fe0, fe1, lte]) rfl ⟨rfl, ?_⟩
    repeat (first | exact HB.out | (refine Below.setCell ?_ (by first | omega | (simp; done) | (simp; omega)) _) | (refine Below.alloc ?_ (by first | omega | (simp; done) | (simp; omega)) _) | (refine below_drewN ?_ _))
set_option maxHeartbeats 1000000 in
set_option maxRecDepth 100000 in
theorem RefCorrect_any (p1 p2 g1 g2 : Int) (w : World) :
    Calls Try.prog 14 #[.agg #[.int .i64 p1, .int .i64 p2], .agg #[.int .i64 g1, .int .i64 g2]] w fun e w' => e = .returned (corrV (correctR (p1, p2) (g1, g2))) ∧ Below w.heap.size w w' := by
  have hR : correctR (p1, p2) (g1, g2) = if (inS p1 p2 0 1073741824 && inS g1 g2 1 1000000) = true then ((min 1073741824 (1000 * p1 / g2), min 1073741824 (upD (1000 * p2) g1)), 0) else ((0, 0), 3) := rfl
  generalize correctR (p1, p2) (g1, g2) = r at *
  by_cases h1 : inS p1 p2 0 1073741824 = true
  · by_cases h2 : inS g1 g2 1 1000000 = true
    · rw [if_pos (by rw [h1, h2]; rfl)] at hR
      obtain ⟨a1, a2, a3⟩ := inS_iff.1 h1
      obtain ⟨b1, b2, b3⟩ := inS_iff.1 h2
      have k1 : 0 ≤ 1000 * p1 / g2 := Int.ediv_nonneg (by omega) (by omega)
      have k2 : 1000 * p1 / g2 ≤ 1000 * p1 := Int.ediv_le_self _ (by omega)
      have hu := fun W => up_any (1000 * p2) g1 W (by omega) (by omega) (by omega) (by omega)
      have hu2 := fun W => Up_any (1000 * p2) g1 W (by omega) (by omega) (by omega) (by omega)
      have hd := fun W => Down_any (1000 * p1) g2 W (by omega) (by omega) (by omega) (by omega)
      rw [← upD_cdiv (by omega)] at hu2
      obtain ⟨u, hue⟩ : ∃ u, upD (1000 * p2) g1 = u := ⟨_, rfl⟩
      rw [hue] at hu hu2 hR
      obtain ⟨n1, hn1⟩ : ∃ n1, min 1073741824 (1000 * p1 / g2) = n1 := ⟨_, rfl⟩
      obtain ⟨n2, hn2⟩ : ∃ n2, min 1073741824 u = n2 := ⟨_, rfl⟩
      rw [hn1, hn2] at hR
      have hn1' : (if 1000 * p1 / g2 < 1073741824 then 1000 * p1 / g2 else 1073741824) = n1 := by rw [← hn1]; split <;> omega
      have hn2' : (if u < 1073741824 then u else 1073741824) = n2 := by rw [← hn2]; split <;> omega
      clear hue
      have Hu := hide hu
      have Hu2 := hide hu2
      have Hd := hide hd
      have HR := hide hR
      clear hu hu2 hd hR
      go_enter Try.func14, Try.ntmps14
      have HB := hide (Below.refl w.heap.size w)
      go_wp2_with fail
      refine at_world fun w1 hW => ?_
      have bq0 : Blk w1 w.heap.size 23 #[.int .i64 p1, .int .i64 p2] := by rw [hW]; exact ((Blk.new _ _ _).alloc _).alloc _
      have bq1 : Blk w1 (w.heap.size + 1) 23 #[.int .i64 g1, .int .i64 g2] := by rw [hW]; exact (blk_new_at (by simp)).alloc _
      have bq2 : Blk w1 (w.heap.size + 2) 23 #[.int .i64 0, .int .i64 0] := by rw [hW]; exact blk_new_at (by simp)
      have LW : Later w w1 := by rw [hW]; exact ((((Below.refl _ _).alloc (Nat.le_refl _) _).alloc (by simp; try omega) _).alloc (by simp; try omega) _)
      have szW : w1.heap.size = w.heap.size + 3 := by rw [hW]; simp
      clear hW
      replace HB := hide (onward HB.out LW)
      have Hp := hide bq0
      have Hg := hide bq1
      have Ho := hide bq2
      clear bq0 bq1 bq2 LW szW
      refine (RefValid_any _ _ _ _ _).mono ?_
      rintro e w2 ⟨rfl, hb⟩
      replace HB := hide (onward HB.out hb)
      replace Hp := hide (blk_later Hp.out hb)
      replace Hg := hide (blk_later Hg.out hb)
      replace Ho := hide (blk_later Ho.out hb)
      clear hb
      rw [h1]
      obtain ⟨y0, y1⟩ := Hg.out.c2
      have lty := Hg.out.lt
      go_wp2_with fail
      refine (RefValid_any _ _ _ _ _).mono ?_
      rintro e w3 ⟨rfl, hb⟩
      replace HB := hide (onward HB.out hb)
      replace Hp := hide (blk_later Hp.out hb)
      replace Hg := hide (blk_later Hg.out hb)
      replace Ho := hide (blk_later Ho.out hb)
      clear hb y0 y1 lty
      rw [h2]
      obtain ⟨y0, y1⟩ := Hg.out.c2
      have lty := Hg.out.lt
      obtain ⟨x0, x1⟩ := Hp.out.c2
      have ltx := Hp.out.lt
      go_wp2_with fail
      have lto := Ho.out.lt
      apply wp_region_F (w0 := w3) [[], [0], [0, 1], [], [3], [0, 1, 2, 3, 4], [0, 1, 2, 3, 4, 5], [], [7], [7, 8], [], [10], [0, 1, 2, 3, 4, 5, 7, 8, 9, 10, 11], [0, 1, 2, 3, 4, 5, 7, 8, 9, 10, 11, 12], [0, 1, 2, 3, 4, 5, 6, 7, 8, 9, 10, 11, 12, 13], [0, 1, 2, 3, 4, 5, 6, 7, 8, 9, 10, 11, 12, 13, 14], [0, 1, 2, 3, 4, 5, 6, 7, 8, 9, 10, 11, 12, 13, 14, 15]] [true, true, true, true, true, true, true, true, true, true, true, true, true, true, true, false, false] [false, false, false, false, false, false, false, false, false, false, false, false, false, false, false, false, true] [⟨15, none, [], []⟩] [(15, (w.heap.size+2))] [15] (fun ixq y => match ixq with | 15 => undef | _ => undef) (fun ixq x F wq => match ixq with | 15 => F (w.heap.size+2) ∧ Blk wq (w.heap.size+2) 23 #[.int .i64 n1, .int .i64 n2] | _ => True) (fun a x => (a).put (none) (undef)) (by kernel_rfl) (by kernel_rfl) (by kernel_rfl) (fun _ => rfl) [20, 27] (by kernel_rfl) (fills_lt1 (by omega)) fills_ne1
      · intro x D hD
        have hne := hD.some
        have k0 := liftS hD x0 (by exact early_all (by first | assumption | omega) (by rfl))
        have k1 := liftS hD x1 (by exact early_all (by first | assumption | omega) (by rfl))
        have k2 := liftS hD y0 (by exact early_all (by first | assumption | omega) (by rfl))
        have k3 := liftS hD y1 (by exact early_all (by first | assumption | omega) (by rfl))
        simp only [takeOps, Act.put, List.setIfInBounds_toArray, List.set_cons_succ, List.set_cons_zero]
        repeat (go_big_quiet_step ((first | (go_at_call 54; exact calls_same _ (Hu.out _)) | (go_at_call 56; exact calls_same _ (Hd.out _)) | (go_at_call 57; exact calls_same _ (Hu2.out _)))))
        exact wpQuiet_nil rfl
      · intro x D hD
        have hne := hD.some
        simp only [takeOps, Act.put, List.setIfInBounds_toArray, List.set_cons_succ, List.set_cons_zero]
        repeat (go_big_quiet_step ((first | (go_at_call 54; exact calls_same _ (Hu.out _)) | (go_at_call 56; exact calls_same _ (Hd.out _)) | (go_at_call 57; exact calls_same _ (Hu2.out _)))))
        exact wpQuiet_nil rfl
      · intro d hd x x'
        simp only [List.mem_cons, List.not_mem_nil, or_false] at hd
        rcases hd with rfl | rfl
        all_goals rfl
      · refine ⟨?_, trivial⟩
        · exact obl_fill 23 23 4 29 (w.heap.size+2) _ (fun x => #[.int .i64 n1, .int .i64 n2]) (by kernel_rfl) (fun _ => rfl) (fun _ => rfl) Ho.out eb_fill1 (by simp [wrF]) (fun _ => by kernel_rfl) (fun _ => rfl) (fun _ => by simp [Value.oneCell']) (fun _ => rfl) (fun _ _ _ _ h1 h2 => ⟨h1, h2⟩)
      · refine ⟨?_, trivial⟩
        · exact owe_fill (w.heap.size+2) 23 (fun x => #[.int .i64 n1, .int .i64 n2]) (fun _ _ _ => rfl) (fun _ _ _ => rfl)
      intro xr w4 F hK hlv2
      obtain ⟨fct15, -⟩ := hlv2
      replace fct15 : (F 15) (w.heap.size+2) ∧ Blk w4 (w.heap.size+2) 23 #[.int .i64 n1, .int .i64 n2] := fct15 rfl
      have hbr := below_kept HB.out HB.out.size hK (by simp)
      have ho4 := fct15.2
      obtain ⟨e0, e1⟩ := ho4.c2
      have fe0 := ho4.frozen 0
      have fe1 := ho4.frozen 1
      have lte := ho4.lt
      go_wp2
      refine bodyPost_ret (v := corrV r) (by rw [HR.out]; simp [corrV, results, Try.results14, go_sem, e0, e1, fe0, fe1, lte]) rfl ⟨rfl, hbr⟩
    · have h3 : inS g1 g2 1 1000000 = false := by simpa using h2
      rw [if_neg (by rw [h3]; simp)] at hR
      have HR := hide hR
      clear hR
      go_enter Try.func14, Try.ntmps14
      have HB := hide (Below.refl w.heap.size w)
      go_wp2_with fail
      refine at_world fun w1 hW => ?_
      have bq0 : Blk w1 w.heap.size 23 #[.int .i64 p1, .int .i64 p2] := by rw [hW]; exact ((Blk.new _ _ _).alloc _).alloc _
      have bq1 : Blk w1 (w.heap.size + 1) 23 #[.int .i64 g1, .int .i64 g2] := by rw [hW]; exact (blk_new_at (by simp)).alloc _
      have bq2 : Blk w1 (w.heap.size + 2) 23 #[.int .i64 0, .int .i64 0] := by rw [hW]; exact blk_new_at (by simp)
      have LW : Later w w1 := by rw [hW]; exact ((((Below.refl _ _).alloc (Nat.le_refl _) _).alloc (by simp; try omega) _).alloc (by simp; try omega) _)
      have szW : w1.heap.size = w.heap.size + 3 := by rw [hW]; simp
      clear hW
      replace HB := hide (onward HB.out LW)
      have Hp := hide bq0
      have Hg := hide bq1
      have Ho := hide bq2
      clear bq0 bq1 bq2 LW szW
      refine (RefValid_any _ _ _ _ _).mono ?_
      rintro e w2 ⟨rfl, hb⟩
      replace HB := hide (onward HB.out hb)
      replace Hp := hide (blk_later Hp.out hb)
      replace Hg := hide (blk_later Hg.out hb)
      replace Ho := hide (blk_later Ho.out hb)
      clear hb
      rw [h1]
      obtain ⟨y0, y1⟩ := Hg.out.c2
      have lty := Hg.out.lt
      go_wp2_with fail
      refine (RefValid_any _ _ _ _ _).mono ?_
      rintro e w3 ⟨rfl, hb⟩
      replace HB := hide (onward HB.out hb)
      replace Hp := hide (blk_later Hp.out hb)
      replace Hg := hide (blk_later Hg.out hb)
      replace Ho := hide (blk_later Ho.out hb)
      clear hb y0 y1 lty
      rw [h3]
      obtain ⟨e0, e1⟩ := Ho.out.c2
      have lte := Ho.out.lt
      have fe0 := Ho.out.frozen 0
      have fe1 := Ho.out.frozen 1
      go_wp2
      refine bodyPost_ret (v := corrV r) (by rw [HR.out]; simp [corrV, results, Try.results14, go_sem, e0, e1, fe0, fe1, lte]) rfl ⟨rfl, ?_⟩
      repeat (first | exact HB.out | (refine Below.setCell ?_ (by first | omega | (simp; done) | (simp; omega)) _) | (refine Below.alloc ?_ (by first | omega | (simp; done) | (simp; omega)) _) | (refine below_drewN ?_ _))
  · have h3 : inS p1 p2 0 1073741824 = false := by simpa using h1
    rw [if_neg (by rw [h3]; simp)] at hR
    have HR := hide hR
    clear hR
    go_enter Try.func14, Try.ntmps14
    have HB := hide (Below.refl w.heap.size w)
    go_wp2_with fail
    refine at_world fun w1 hW => ?_
    have bq0 : Blk w1 w.heap.size 23 #[.int .i64 p1, .int .i64 p2] := by rw [hW]; exact ((Blk.new _ _ _).alloc _).alloc _
    have bq1 : Blk w1 (w.heap.size + 1) 23 #[.int .i64 g1, .int .i64 g2] := by rw [hW]; exact (blk_new_at (by simp)).alloc _
    have bq2 : Blk w1 (w.heap.size + 2) 23 #[.int .i64 0, .int .i64 0] := by rw [hW]; exact blk_new_at (by simp)
    have LW : Later w w1 := by rw [hW]; exact ((((Below.refl _ _).alloc (Nat.le_refl _) _).alloc (by simp; try omega) _).alloc (by simp; try omega) _)
    have szW : w1.heap.size = w.heap.size + 3 := by rw [hW]; simp
    clear hW
    replace HB := hide (onward HB.out LW)
    have Hp := hide bq0
    have Hg := hide bq1
    have Ho := hide bq2
    clear bq0 bq1 bq2 LW szW
    refine (RefValid_any _ _ _ _ _).mono ?_
    rintro e w2 ⟨rfl, hb⟩
    replace HB := hide (onward HB.out hb)
    replace Hp := hide (blk_later Hp.out hb)
    replace Hg := hide (blk_later Hg.out hb)
    replace Ho := hide (blk_later Ho.out hb)
    clear hb
    rw [h3]
    obtain ⟨e0, e1⟩ := Ho.out.c2
    have lte := Ho.out.lt
    have fe0 := Ho.out.frozen 0
    have fe1 := Ho.out.frozen 1
    go_wp2
    refine bodyPost_ret (v := corrV r) (by rw [HR.out]; simp [corrV, results, Try.results14, go_sem, e0, e1, fe0, fe1, lte]) rfl ⟨rfl, ?_⟩
    repeat (first | exact HB.out | (refine Below.setCell ?_ (by first | omega | (simp; done) | (simp; omega)) _) | (refine Below.alloc ?_ (by first | omega | (simp; done) | (simp; omega)) _) | (refine below_drewN ?_ _))
end Go.Proofs.Ytiggefmckomilaa
namespace Go.Proofs.Ytiggefmckomilaa
open Go Go.RowKit

/-- Things that a call has made lie beside those that were there. -/
theorem Mem.join {w0 W W' : World} {ts ts' : List Th} (h : Mem w0 ts W) (h' : Mem W ts' W') : Mem w0 (ts' ++ ts) W' := by
  have hl := h.later h'.below
  have hlt := h.lt
  have hsz := h.size
  refine ⟨fun t ht => ?_, ?_, fun k hk => ?_, hl.below⟩
  · rcases List.mem_append.1 ht with ht | ht
    · exact h'.all t ht
    · exact hl.all t ht
  · unfold fps
    rw [List.flatMap_append, List.nodup_append]
    exact ⟨h'.nodup, h.nodup, fun a ha b hb e => by
      subst e
      have := h'.low a ha
      have := hlt a hb
      omega⟩
  · unfold fps at hk
    rw [List.flatMap_append] at hk
    rcases List.mem_append.1 hk with hk | hk
    · have := h'.low k hk; omega
    · exact h.low k hk
def kb0 : List Ent := [exB, exA, exR]
def kb1 : List Ent := exT :: kb0
def kb2 : List Ent := .test ⟨⟨#[114]⟩, ⟨#[97]⟩, 172800, 2500, 2500⟩ :: kb1
def kb3 : List Ent := .turn ⟨#[98]⟩ true :: kb2
def kb4 : List Ent := .turn ⟨#[98]⟩ false :: kb3
def kb5 : List Ent := .turn ⟨#[97]⟩ true :: kb4
def tmA (k : Nat) : Int := if k = 0 then 0 else if k = 1 then 86400 else 86401
def loA (k : Nat) : Int := if k = 0 then 1000 else if k = 1 then 999 else 998
def hiA (k : Nat) : Int := if k = 0 then 1010 else if k = 1 then 1011 else 1012
def tmB (k : Nat) : Int := if k = 0 then 172800 else if k = 1 then 259200 else 0
def loB (k : Nat) : Int := if k = 0 then 1972 else if k = 1 then 1970 else 1968
def hiB (k : Nat) : Int := if k = 0 then 2029 else if k = 1 then 2031 else 2033
theorem k3 {k : Nat} (h : k < 3) : k = 0 ∨ k = 1 ∨ k = 2 := by omega
theorem timA {k : Nat} (h : k < 3) : (#[.int .i64 0, .int .i64 86400, .int .i64 86401] : Array Value)[k]? = some (.int .i64 (tmA k)) := by rcases k3 h with rfl | rfl | rfl <;> rfl
theorem timB {k : Nat} (h : k < 3) : (#[.int .i64 172800, .int .i64 259200, .int .i64 0] : Array Value)[k]? = some (.int .i64 (tmB k)) := by rcases k3 h with rfl | rfl | rfl <;> rfl
theorem spnA {k : Nat} (h : k < 3) : (#[.int .i64 1000, .int .i64 1010, .int .i64 999, .int .i64 1011, .int .i64 998, .int .i64 1012] : Array Value)[k * 2]? = some (.int .i64 (loA k)) ∧ (#[.int .i64 1000, .int .i64 1010, .int .i64 999, .int .i64 1011, .int .i64 998, .int .i64 1012] : Array Value)[k * 2 + 1]? = some (.int .i64 (hiA k)) := by rcases k3 h with rfl | rfl | rfl <;> exact ⟨rfl, rfl⟩
theorem spnB {k : Nat} (h : k < 3) : (#[.int .i64 1972, .int .i64 2029, .int .i64 1970, .int .i64 2031, .int .i64 1968, .int .i64 2033] : Array Value)[k * 2]? = some (.int .i64 (loB k)) ∧ (#[.int .i64 1972, .int .i64 2029, .int .i64 1970, .int .i64 2031, .int .i64 1968, .int .i64 2033] : Array Value)[k * 2 + 1]? = some (.int .i64 (hiB k)) := by rcases k3 h with rfl | rfl | rfl <;> exact ⟨rfl, rfl⟩
theorem kn_val {k : Nat} (h : k < 3) : valueE kb0 ⟨#[97]⟩ (tmA k) = ((loA k, hiA k), 0) := by rcases k3 h with rfl | rfl | rfl <;> decide +kernel
theorem kn_stale : valueE kb0 ⟨#[97]⟩ 864001 = ((0, 0), 22) := by decide +kernel
theorem kn_t1 : testE kb0 ⟨⟨#[114]⟩, ⟨#[98]⟩, 172800, 998, 1012⟩ = 0 := by decide +kernel
theorem kn_gain {k : Nat} (h : k < 3) : gainE kb1 ⟨#[114]⟩ (tmB k) = ((loB k, hiB k), (0, 0), 0) := by rcases k3 h with rfl | rfl | rfl <;> decide +kernel
theorem kn_t2 : testE kb1 ⟨⟨#[114]⟩, ⟨#[97]⟩, 172800, 2500, 2500⟩ = 0 := by decide +kernel
theorem kn_l2 : ((testsT kb1).length : Int) = 1 := by decide +kernel
theorem kn_g2 : gainE kb2 ⟨#[114]⟩ 172800 = ((0, 0), (0, 1), 14) := by decide +kernel
theorem kn_dep : dependA kb2 ⟨#[97]⟩ = ([⟨#[97]⟩, ⟨#[98]⟩], [0, 1], 0) := by decide +kernel
theorem kn_w3 : turnE kb2 ⟨#[98]⟩ true = 0 := by decide +kernel
theorem kn_g3 : gainE kb3 ⟨#[114]⟩ 172800 = ((2470, 2506), (0, 0), 0) := by decide +kernel
theorem kn_ch : chainA kb3 0 = ([⟨#[98]⟩, ⟨#[97]⟩], 0) := by decide +kernel
theorem kn_w4 : turnE kb3 ⟨#[98]⟩ false = 0 := by decide +kernel
theorem kn_w5 : turnE kb4 ⟨#[97]⟩ true = 0 := by decide +kernel
theorem kn_g5 : gainE kb5 ⟨#[114]⟩ 0 = ((0, 0), (0, 0), 18) := by decide +kernel
theorem kn_v5 : valueE kb5 ⟨#[98]⟩ 86400 = ((0, 0), 22) := by decide +kernel
theorem kn_d5 : defineE kb5 ⟨⟨#[99]⟩, ⟨#[98]⟩, 1000, 1000, 86400, 864000, 0⟩ = 22 := by decide +kernel
theorem kn_len : (kb5.length : Int) = 8 := rfl
theorem kn_drop : kb5.drop (kb5.length - (4 : Int).toNat) = kb1 := rfl
theorem kn_g1 : gainE kb1 ⟨#[114]⟩ 172800 = ((1972, 2029), (0, 0), 0) := by decide +kernel
theorem kn_cor : correctR (100, 200) (1000, 1000) = ((100, 200), 0) := by decide +kernel
end Go.Proofs.Ytiggefmckomilaa
