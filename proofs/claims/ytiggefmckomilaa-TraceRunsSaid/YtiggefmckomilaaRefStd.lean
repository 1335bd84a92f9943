/-
  Books that were copied after each act: plain words, and how they lie.
  What is withdrawn is as if it had never been entered: plain words.
  The order of tests: plain words.
  The order of tests: books as the acts make them.
  Chains of standards and what depends on them: plain words.
  Two lists are equal: names, numbers.
  Quotients of the reference, rounded down and up: its contracts.
  Corrected powers: trace's and the reference's.
  The chapter's examples of books: what they answer.
  Rows of acts in memory.
  The reference's book: how its list of entries lies in memory; plain words.
  The reference's book: its small functions that only read.
  The reference's book: a standard by its name; spans that widen.
-/
import Derived.Test.YtiggefmckomilaaActSame
import Derived.Test.YtiggefmckomilaaRegD
import Derived.BigQuiet
import Derived.Test.YtiggefmckomilaaProg
import Derived.Test.YtiggefmckomilaaShelf
import Derived.Test.YtiggefmckomilaaMapV
import Derived.Test.YtiggefmckomilaaRegC
set_option linter.unusedSimpArgs false
set_option linter.unusedVariables false
namespace Go.Proofs.Ytiggefmckomilaa
open Go Go.RowKit

theorem Rows_.none (w : World) (B size : Nat) (f : Nat → List Value) : Rows_ w B none 0 size f := fun h => absurd h (Nat.lt_irrefl _)
end Go.Proofs.Ytiggefmckomilaa
namespace Go.Proofs.Ytiggefmckomilaa
open Go Go.RowKit

section
variable {G : ByteArray → Bool}
theorem std_name : ∀ {l : List Ent} {n : ByteArray} {s : Std}, stdT l n = some s → s.name = n
  | [], _, _, h => by cases h
  | .radar m d :: l, n, s, h => std_name (l := l) h
  | .test t :: l, n, s, h => std_name (l := l) h
  | .turn m o :: l, n, s, h => std_name (l := l) h
  | .define x :: l, n, s, h => by
    rw [stdT] at h
    split at h
    · rename_i e; rw [← Option.some.inj h]; exact e
    · exact std_name (l := l) h
theorem tests_le_len : ∀ {l : List Ent}, (testsT l).length ≤ l.length
  | [] => Nat.le_refl _
  | .radar m d :: l => Nat.le_succ_of_le (tests_le_len (l := l))
  | .define s :: l => Nat.le_succ_of_le (tests_le_len (l := l))
  | .turn m o :: l => Nat.le_succ_of_le (tests_le_len (l := l))
  | .test t :: l => Nat.succ_le_succ (tests_le_len (l := l))
end
/-- What comes from a standard. -/
def depG (l : List Ent) (x : ByteArray) (m : ByteArray) : Bool := memB (chainT l m) x
theorem depN_mem {l : List Ent} {x m : ByteArray} : memB (depN l x (stdsT l).length) m = depG l x m := by
  rw [Bool.eq_iff_iff, memB_iff]
  unfold depN depG
  rw [List.take_of_length_le (by unfold ordN; simp), List.mem_filter]
  refine ⟨fun h => h.2, fun h => ⟨?_, h⟩⟩
  cases hs : stdT l m with
  | none => rw [chainT_none hs] at h; cases h
  | some s =>
    have := std_some_mem hs
    unfold ordN
    rw [List.map_reverse, List.mem_reverse]
    exact this
section
variable {l : List Ent} {x : ByteArray}
theorem turn_zero {o : Bool} (h : turnE l x o = 0) : l.length < 2000 ∧ (∃ s, stdT l x = some s) ∧ wdT l x ≠ o := by
  unfold turnE at h
  split at h
  · exact absurd h (by omega)
  split at h
  · exact absurd h (by omega)
  split at h
  · exact absurd h (by omega)
  rename_i h1 h2 h3
  refine ⟨by omega, ?_, h3⟩
  cases hs : stdT l x with
  | none => rw [hs] at h2; exact absurd rfl h2
  | some s => exact ⟨s, rfl⟩
end
theorem strV_snoc (q : List ByteArray) (x : ByteArray) : strV (q ++ [x]) = strV q ++ [.string x] := by unfold strV; simp
end Go.Proofs.Ytiggefmckomilaa
namespace Go.Proofs.Ytiggefmckomilaa
open Go Go.RowKit

/-- Books with the same radars and standards, and nothing withdrawn. -/
structure SameD (l l' : List Ent) : Prop where
  drift : ∀ n, driftT l n = driftT l' n
  radars : radarsT l = radarsT l'
  stds : stdsT l = stdsT l'
  std : ∀ n, stdT l n = stdT l' n
  made : ∀ n, madeT l n = madeT l' n
  wd : ∀ n, wdT l n = false
  wd' : ∀ n, wdT l' n = false
section
variable {l l' : List Ent}
theorem void_none (h : ∀ n, wdT l n = false) (n : ByteArray) : voidT l n = false := List.any_eq_false.2 fun m _ => by rw [h m]; simp
theorem SameD.sym (h : SameD l l') : SameD l' l := ⟨fun n => (h.drift n).symm, h.radars.symm, h.stds.symm, fun n => (h.std n).symm, fun n => (h.made n).symm, h.wd', h.wd⟩
theorem SameD.void (h : SameD l l') (n : ByteArray) : voidT l n = false := void_none h.wd n
theorem SameD.value (h : SameD l l') (s : Std) (t : Int) : valueT l s t = valueT l' s t := by unfold valueT; rw [h.made]
theorem SameD.gain (h : SameD l l') (t : Tst) : gainT l t = gainT l' t := by
  unfold gainT
  rw [h.std]
  cases stdT l' t.std with
  | none => rfl
  | some s => simp only; rw [h.value]
theorem SameD.valueE (h : SameD l l') (n : ByteArray) (t : Int) : Go.Proofs.Ytiggefmckomilaa.valueE l n t = Go.Proofs.Ytiggefmckomilaa.valueE l' n t := by
  unfold Go.Proofs.Ytiggefmckomilaa.valueE
  rw [h.std, h.void, h.sym.void]
  cases stdT l' n with
  | none => rfl
  | some s => simp only; rw [h.value]
theorem SameD.nil : SameD [] [] := ⟨fun _ => rfl, rfl, rfl, fun _ => rfl, fun _ => rfl, fun _ => rfl, fun _ => rfl⟩
theorem SameD.radar (h : SameD l l') (n : ByteArray) (d : Int) : SameD (.radar n d :: l) (.radar n d :: l') :=
  ⟨fun m => by rw [driftT, driftT, h.drift], by rw [radarsT, radarsT, h.radars], h.stds, h.std, h.made, h.wd, h.wd'⟩
theorem SameD.define (h : SameD l l') (s : Std) : SameD (.define s :: l) (.define s :: l') :=
  ⟨h.drift, h.radars, by rw [stdsT, stdsT, h.stds], fun n => by rw [stdT, stdT, h.std], fun n => by rw [madeT, madeT, h.std, h.made, h.made], h.wd, h.wd'⟩
theorem SameD.ok (h : SameD l l') {x : Ent} (hl : l.length ≤ 100) (hl' : l'.length ≤ 100) (hx : ∀ n o, x ≠ .turn n o) : okEnt l x = okEnt l' x := by
  have n1 : ¬ 2000 ≤ l.length := by omega
  have n2 : ¬ 2000 ≤ l'.length := by omega
  cases x with
  | radar n d =>
    show (radarE l n d == 0) = (radarE l' n d == 0)
    unfold radarE
    rw [h.drift, h.radars, if_neg n1, if_neg n2]
  | define s =>
    show (defineE l s == 0) = (defineE l' s == 0)
    unfold defineE
    rw [h.std, h.stds, if_neg n1, if_neg n2, h.std, h.void, h.sym.void]
    cases stdT l' s.par with
    | none => rfl
    | some p => simp only; rw [h.value]
  | test t =>
    have n3 : ¬ 512 ≤ (testsT l).length := by have := tests_le_len (l := l); omega
    have n4 : ¬ 512 ≤ (testsT l').length := by have := tests_le_len (l := l'); omega
    show (testE l t == 0) = (testE l' t == 0)
    unfold testE
    rw [h.drift, h.std, if_neg n1, if_neg n2, h.void, h.sym.void]
    cases driftT l' t.radar with
    | none => rfl
    | some d =>
      cases stdT l' t.std with
      | none => rfl
      | some s => simp only; rw [if_neg n3, if_neg n4]
  | turn n o => exact absurd rfl (hx n o)
end
/-- A test that was accepted. -/
def TestIn (l : List Ent) (t : Tst) : Prop := (∃ d, driftT l t.radar = some d) ∧ inR t.time 0 4294967296 = true ∧ inS t.lo t.hi 1 1000000000 = true ∧ ∃ s, stdT l t.std = some s ∧ inR t.time s.time s.stop = true
theorem testE_in {l : List Ent} {t : Tst} (h : testE l t = 0) : TestIn l t := by
  unfold testE at h
  split at h
  · exact absurd h (by omega)
  split at h
  · rename_i d s hd hs
    split at h
    · exact absurd h (by omega)
    split at h
    · exact absurd h (by omega)
    rename_i h5
    split at h
    · exact absurd h (by omega)
    rename_i h6
    rw [Bool.not_eq_false, Bool.and_eq_true] at h5
    simp only [Bool.or_eq_true, not_or, Bool.not_eq_true, Bool.not_eq_false'] at h6
    exact ⟨⟨d, hd⟩, h5.1, h5.2, s, hs, h6.2⟩
  · exact absurd h (by omega)
theorem TestIn.zero {l : List Ent} {t : Tst} (h : TestIn l t) (hl : l.length ≤ 100) (hw : ∀ n, wdT l n = false) : testE l t = 0 := by
  obtain ⟨⟨d, h1⟩, h2, h3, s, h4, h5⟩ := h
  have n3 : ¬ 512 ≤ (testsT l).length := by have := tests_le_len (l := l); omega
  unfold testE
  rw [if_neg (by omega), h1, h4]
  simp only
  rw [if_neg n3, h2, h3, void_none hw, h5]
  rfl
theorem TestIn.mono {e : Ent} {l : List Ent} {t : Tst} (hg : GoodB (e :: l)) (h : TestIn l t) : TestIn (e :: l) t := by
  obtain ⟨⟨d, h1⟩, h2, h3, s, h4, h5⟩ := h
  refine ⟨?_, h2, h3, s, by rw [stdT_cons (fresh_of hg h4)]; exact h4, h5⟩
  cases e with
  | radar m x =>
    rw [driftT]
    by_cases e : m = t.radar
    · rw [if_pos e]; exact ⟨x, rfl⟩
    · rw [if_neg e]; exact ⟨d, h1⟩
  | _ => exact ⟨d, h1⟩
theorem TestIn.same {l l' : List Ent} {t : Tst} (h : TestIn l t) (hs : SameD l l') : TestIn l' t := by
  obtain ⟨⟨d, h1⟩, h2, h3, s, h4, h5⟩ := h
  exact ⟨⟨d, by rw [← hs.drift]; exact h1⟩, h2, h3, s, by rw [← hs.std]; exact h4, h5⟩
theorem good_tin : ∀ {l : List Ent}, GoodB l → ∀ t ∈ testsT l, TestIn l t
  | [], _, t, h => by cases h
  | .radar n d :: l, hg, t, h => (good_tin (l := l) hg.2 t h).mono hg
  | .define s :: l, hg, t, h => (good_tin (l := l) hg.2 t h).mono hg
  | .turn n o :: l, hg, t, h => (good_tin (l := l) hg.2 t h).mono hg
  | .test x :: l, hg, t, h => by
    rw [testsT] at h
    rcases List.mem_cons.1 h with rfl | h
    · exact (testE_in (by have := hg.1; unfold okEnt at this; simpa using this)).mono hg
    · exact (good_tin (l := l) hg.2 t h).mono hg
/-- The gain by a test stays. -/
theorem gainT_cons {e : Ent} {l : List Ent} {t : Tst} (hg : GoodB (e :: l)) (h : TestIn l t) : gainT (e :: l) t = gainT l t := by
  obtain ⟨-, -, -, s, h4, -⟩ := h
  have hf := fresh_of hg h4
  unfold gainT
  rw [stdT_cons hf, h4]
  simp only
  unfold valueT
  rw [std_name h4, madeT_cons hf]
theorem info_map : ∀ {l : List Ent}, GoodB l → testInfo l = (testsT l).reverse.map fun t => (t, gainT l t)
  | [], _ => rfl
  | e :: l, hg => by
    have ih := info_map (l := l) hg.2
    have hc : (testsT l).reverse.map (fun t => (t, gainT (e :: l) t)) = (testsT l).reverse.map fun t => (t, gainT l t) :=
      List.map_congr_left fun t ht => by rw [gainT_cons hg (good_tin hg.2 t (List.mem_reverse.1 ht))]
    cases e with
    | test x =>
      rw [testInfo, testsT, List.reverse_cons, List.map_append, hc, ih]
      simp only [List.map_cons, List.map_nil]
      rfl
    | _ => exact ih.trans hc.symm
/-- A gain is no less than nothing. -/
theorem gain_le {l : List Ent} {t : Tst} (hg : GoodB l) (h : TestIn l t) : 1 ≤ (gainT l t).1 ∧ (gainT l t).1 ≤ (gainT l t).2 := by
  obtain ⟨-, k1, k2, s, hs, -⟩ := h
  obtain ⟨a1, a2⟩ := inR_iff.1 k1
  obtain ⟨b1, b2, b3⟩ := inS_iff.1 k2
  obtain ⟨hq, hqn, hqm⟩ := good_std hg hs
  have hvb := widenS_bd (s := madeT l s.name) (d := s.drift) (f := s.time) (t := t.time) hq.d0 hq.d1 hq.t0 (by have := hq.t1; have := hq.t2; omega) a1 a2 (by rw [hqn]; exact hqm.2.1) (by rw [hqn]; have := hqm.1; have := hqm.2.1; omega)
  have hG : gainT l t = (max 1 (1000 * t.lo / (valueT l s t.time).2), upD (1000 * t.hi) (valueT l s t.time).1) := by unfold gainT; rw [hs]
  unfold valueT at hG
  rw [hG]
  generalize widenS (madeT l s.name) s.drift s.time t.time = v at *
  obtain ⟨v1, v2, -⟩ := hvb
  simp only
  obtain ⟨u1, u2, u3, u4⟩ := upD_bd (a := 1000 * t.hi) (b := v.1) (by omega) (by omega)
  obtain ⟨d1, d2, d3⟩ := div_bd (a := 1000 * t.lo) (b := v.2) (by omega) (by omega)
  have one : 1 ≤ upD (1000 * t.hi) v.1 := by
    rcases Int.lt_or_le 0 (upD (1000 * t.hi) v.1) with h | h
    · omega
    · have h0 : upD (1000 * t.hi) v.1 = 0 := by omega
      rw [h0] at u3
      omega
  have lt2 : 1000 * t.lo / v.2 ≤ upD (1000 * t.hi) v.1 := by
    have m1 : v.1 * (1000 * t.lo / v.2) ≤ v.1 * upD (1000 * t.hi) v.1 := by
      have := Int.mul_le_mul_of_nonneg_right v2 d1
      omega
    exact Int.le_of_mul_le_mul_left m1 (by omega)
  omega
/-- What spans have in common, by what they are. -/
theorem meetQ_ends (q : List (Nat × (Int × Int))) : ∀ k, k ≤ q.length → (∀ i, i < k → (q.getD i (0, (0, 0))).2.1 ≤ (meetQ q k).1 ∧ (meetQ q k).2 ≤ (q.getD i (0, (0, 0))).2.2) ∧ (0 < q.length → (∃ i, i < q.length ∧ (q.getD i (0, (0, 0))).2.1 = (meetQ q k).1) ∧ ∃ i, i < q.length ∧ (q.getD i (0, (0, 0))).2.2 = (meetQ q k).2)
  | 0, _ => ⟨fun i hi => absurd hi (Nat.not_lt_zero _), fun h => ⟨⟨0, h, rfl⟩, 0, h, rfl⟩⟩
  | k + 1, hk => by
    obtain ⟨a, b⟩ := meetQ_ends q k (by omega)
    rw [meetQ]
    simp only
    refine ⟨fun i hi => ?_, fun h => ?_⟩
    · by_cases e : i = k
      · subst e; omega
      · have := a i (by omega); omega
    · obtain ⟨⟨i, hi, e1⟩, j, hj, e2⟩ := b h
      constructor
      · by_cases hm : (meetQ q k).1 ≤ (q.getD k (0, (0, 0))).2.1
        · exact ⟨k, by omega, by omega⟩
        · exact ⟨i, hi, by omega⟩
      · by_cases hm : (q.getD k (0, (0, 0))).2.2 ≤ (meetQ q k).2
        · exact ⟨k, by omega, by omega⟩
        · exact ⟨j, hj, by omega⟩
theorem getD_mem {q : List (Nat × (Int × Int))} {i : Nat} (h : i < q.length) : q.getD i (0, (0, 0)) ∈ q := by rw [List.getD_eq_getElem?_getD, List.getElem?_eq_getElem h]; exact List.getElem_mem _
theorem mem_getD {q : List (Nat × (Int × Int))} {y : Nat × (Int × Int)} (h : y ∈ q) : ∃ i, i < q.length ∧ q.getD i (0, (0, 0)) = y := by
  obtain ⟨i, hi⟩ := List.mem_iff_getElem?.1 h
  exact ⟨i, (List.getElem?_eq_some_iff.1 hi).1, by rw [List.getD_eq_getElem?_getD, hi]; rfl⟩
/-- The first pair that is found. -/
theorem rowF_spec (cf : Nat → Nat → Bool) (i n : Nat) : ∀ m j, j + m = n → (∀ b, rowF cf i j m = some b → j ≤ b ∧ b < n ∧ cf i b = true) ∧ (rowF cf i j m = none → ∀ b, j ≤ b → b < n → cf i b = false)
  | 0, j, h => ⟨(fun b hb => by rw [rowF] at hb; cases hb), fun _ b h1 h2 => by omega⟩
  | m + 1, j, h => by
    obtain ⟨a, b⟩ := rowF_spec cf i n m (j + 1) (by omega)
    rw [rowF]
    by_cases hc : cf i j = true
    · rw [if_pos hc]
      exact ⟨fun b hb => by rw [← Option.some.inj hb]; exact ⟨Nat.le_refl _, by omega, hc⟩, fun h => by cases h⟩
    · rw [if_neg hc]
      refine ⟨fun x hx => ?_, fun hx x h1 h2 => ?_⟩
      · obtain ⟨p, q, r⟩ := a x hx; exact ⟨by omega, q, r⟩
      · by_cases e : x = j
        · subst e; simpa using hc
        · exact b hx x (by omega) h2
theorem findF_spec (cf : Nat → Nat → Bool) (n : Nat) : ∀ m i, i + m = n → (∀ p, findF cf n i m = some p → p.1 < p.2 ∧ p.2 < n ∧ cf p.1 p.2 = true) ∧ (findF cf n i m = none → ∀ a b, i ≤ a → a < b → b < n → cf a b = false)
  | 0, i, h => ⟨(fun p hp => by rw [findF] at hp; cases hp), fun _ a b h1 h2 h3 => by omega⟩
  | m + 1, i, h => by
    obtain ⟨x, y⟩ := findF_spec cf n m (i + 1) (by omega)
    obtain ⟨u, v⟩ := rowF_spec cf i n (n - (i + 1)) (i + 1) (by omega)
    rw [findF]
    cases hr : rowF cf i (i + 1) (n - (i + 1)) with
    | some j =>
      refine ⟨fun p hp => ?_, fun h => by cases h⟩
      obtain ⟨u1, u2, u3⟩ := u j hr
      rw [← Option.some.inj hp]
      exact ⟨by simp only; omega, u2, u3⟩
    | none =>
      refine ⟨fun p hp => x p hp, fun hp a b h1 h2 h3 => ?_⟩
      by_cases e : a = i
      · subst e; exact v hr b (by omega) h3
      · exact y hp a b (by omega) h2 h3
/-- A contradiction is one of two. -/
theorem off_pair {q : List (Nat × (Int × Int))} (h0 : q.length ≠ 0) (hs : ∀ y ∈ q, y.2.1 ≤ y.2.2) (hm : ¬ (meetQ q q.length).1 ≤ (meetQ q q.length).2) : ∃ i j, findF (offQ q) q.length 0 q.length = some (i, j) ∧ i < j ∧ j < q.length ∧ offQ q i j = true := by
  obtain ⟨x, y⟩ := findF_spec (offQ q) q.length q.length 0 (by omega)
  obtain ⟨-, b⟩ := meetQ_ends q q.length (Nat.le_refl _)
  obtain ⟨⟨i, hi, e1⟩, j, hj, e2⟩ := b (by omega)
  have si := hs _ (getD_mem hi)
  have sj := hs _ (getD_mem hj)
  cases hf : findF (offQ q) q.length 0 q.length with
  | some p => exact ⟨p.1, p.2, rfl, x p hf⟩
  | none =>
    have z := y hf
    exfalso
    rcases Nat.lt_trichotomy i j with h | h | h
    · have := z i j (Nat.zero_le _) h hj
      unfold offQ offB at this
      simp only [Bool.or_eq_false_iff, decide_eq_false_iff_not] at this
      omega
    · subst h; omega
    · have := z j i (Nat.zero_le _) h hi
      unfold offQ offB at this
      simp only [Bool.or_eq_false_iff, decide_eq_false_iff_not] at this
      omega
/-- The numbers of the tests that count. -/
theorem selN_num (T : List (Tst × (Int × Int))) (n : ByteArray) (vd : ByteArray → Bool) (d time : Int) : ∀ i, (∀ y ∈ selN T n vd d time i, y.1 < i ∧ ∃ x, T[y.1]? = some x ∧ x.1.radar = n ∧ y.2 = widenS x.2 d x.1.time time) ∧ (selN T n vd d time i).Pairwise fun a b => a.1 < b.1
  | 0 => ⟨(fun y h => by cases h), List.Pairwise.nil⟩
  | i + 1 => by
    obtain ⟨a, b⟩ := selN_num T n vd d time i
    rw [selN]
    have hlast : ∀ y ∈ (match T[i]? with | some x => if x.1.radar = n ∧ vd x.1.std = false then [(i, widenS x.2 d x.1.time time)] else [] | none => ([] : List (Nat × (Int × Int)))), y.1 = i ∧ ∃ x, T[i]? = some x ∧ x.1.radar = n ∧ y.2 = widenS x.2 d x.1.time time := fun y hy => by
      cases hT : T[i]? with
      | none => rw [hT] at hy; cases hy
      | some x =>
        rw [hT] at hy
        simp only at hy
        split at hy
        · rename_i hc
          rw [List.mem_singleton] at hy
          subst hy
          exact ⟨rfl, x, rfl, hc.1, rfl⟩
        · cases hy
    refine ⟨fun y hy => ?_, List.pairwise_append.2 ⟨b, ?_, fun x hx y hy => ?_⟩⟩
    · rcases List.mem_append.1 hy with h | h
      · obtain ⟨p, q⟩ := a y h; exact ⟨by omega, q⟩
      · obtain ⟨p, x, h1, h2⟩ := hlast y h
        exact ⟨by omega, x, by rw [p]; exact h1, h2⟩
    · split
      · split
        · exact List.pairwise_singleton _ _
        · exact List.Pairwise.nil
      · exact List.Pairwise.nil
    · have := (a x hx).1
      have := (hlast y hy).1
      omega
end Go.Proofs.Ytiggefmckomilaa
namespace Go.Proofs.Ytiggefmckomilaa
open Go Go.RowKit

end Go.Proofs.Ytiggefmckomilaa
namespace Go.Proofs.Ytiggefmckomilaa
open Go Go.RowKit

/-- A chain, from a place on. -/
theorem chainDrop {l : List Ent} {n : ByteArray} (hg : GoodB l) (hn : ∃ s, stdT l n = some s) : ∀ j m, (chainT l n)[j]? = some m → (chainT l n).drop j = chainT l m ∧ ∃ s, stdT l m = some s
  | 0, m, h => by
    obtain ⟨s, hs⟩ := hn
    rw [chain_step hg hs] at h
    have e : n = m := by simpa using h
    subst e
    exact ⟨rfl, s, hs⟩
  | j + 1, m, h => by
    have hlt := (List.getElem?_eq_some_iff.1 h).1
    obtain ⟨e, s, hs⟩ := chainDrop hg hn j ((chainT l n)[j]) (List.getElem?_eq_getElem (by omega))
    generalize (chainT l n)[j] = p at e hs
    have e2 : (chainT l n).drop (j + 1) = (if s.par = ByteArray.empty then [] else chainT l s.par) := by
      have : (chainT l n).drop (j + 1) = ((chainT l n).drop j).drop 1 := by rw [List.drop_drop]
      rw [this, e, chain_step hg hs]
      rfl
    have h0 : ((chainT l n).drop (j + 1))[0]? = some m := by rw [List.getElem?_drop]; exact h
    by_cases hp : s.par = ByteArray.empty
    · rw [e2, if_pos hp] at h0; cases h0
    · rw [if_neg hp] at e2
      obtain ⟨q, hq, -⟩ := par_of hg hs hp
      rw [e2, chain_step hg hq] at h0
      have e3 : s.par = m := by simpa using h0
      rw [e2, e3]
      exact ⟨rfl, q, e3 ▸ hq⟩
theorem chainNext {l : List Ent} {n : ByteArray} (hg : GoodB l) (hn : ∃ s, stdT l n = some s) {j : Nat} {s : Std} (h : (chainT l n)[j]? = some s.name) (hs : stdT l s.name = some s) :
    (s.par = ByteArray.empty → j + 1 = (chainT l n).length) ∧ (s.par ≠ ByteArray.empty → (chainT l n)[j + 1]? = some s.par) := by
  obtain ⟨e, -⟩ := chainDrop hg hn j _ h
  have hlt := (List.getElem?_eq_some_iff.1 h).1
  rw [chain_step hg hs] at e
  constructor
  · intro hp
    rw [if_pos hp] at e
    have := congrArg List.length e
    rw [List.length_drop, List.length_singleton] at this
    omega
  · intro hp
    rw [if_neg hp] at e
    obtain ⟨q, hq, -⟩ := par_of hg hs hp
    rw [chain_step hg hq] at e
    have : ((chainT l n).drop j)[1]? = some s.par := by rw [e]; rfl
    rw [List.getElem?_drop] at this
    exact this
theorem chainLen {l : List Ent} : ∀ {n : ByteArray}, (chainT l n).length ≤ l.length := fun {n} => by
  induction l generalizing n with
  | nil => exact Nat.le_refl _
  | cons e l ih =>
    cases e with
    | define s =>
      rw [chainT]
      have h1 := ih (n := n)
      have h2 := ih (n := s.par)
      split
      · split
        · simp only [List.length_cons, List.length_nil]; omega
        · simp only [List.length_cons]; omega
      · simp only [List.length_cons]; omega
    | _ => exact Nat.le_succ_of_le (ih (n := n))
end Go.Proofs.Ytiggefmckomilaa
namespace Go.Proofs.Ytiggefmckomilaa
open Go Go.RowKit

/-- A slice that reads as some values, below a block. -/
def ListAt (w : World) (B : Nat) (A : Option Addr) (q : List Value) : Prop := 0 < q.length → ∃ b off, A = some ⟨b, off, none⟩ ∧ b < B ∧ ∀ (i : Nat) (v : Value), q[i]? = some v → w.cell? ⟨b, off + i, none⟩ = some v
theorem ListAt.later {w w' : World} {B B' : Nat} {A : Option Addr} {q : List Value} (h : ListAt w B A q) (hb : Below B w w') (hB : B ≤ B') : ListAt w' B' A q := fun hn => by
  obtain ⟨b, off, e, hl, hc⟩ := h hn
  exact ⟨b, off, e, by omega, fun i s hs => (hb.cell hl).trans (hc i s hs)⟩
theorem ListAt.blk {w : World} {g : Nat} {t : TypeId} {cs : Array Value} {q : List Value} (h : Blk w g t cs) (hq : cs.toList = q) : ListAt w w.heap.size (some ⟨g, 0, none⟩) q := fun _ => by
  subst hq
  exact ⟨g, 0, rfl, h.lt, fun i v hv => by rw [Nat.zero_add]; exact h.c i (by rw [← hv]; exact (Array.getElem?_toList).symm)⟩
theorem ListAt.own {w : World} {base n c : Nat} {t : TypeId} {A : Option Addr} {xs : List Value} (h : w.ownsRow base t 1 (.slice A n c) n xs) (hn : xs.length = n) : ListAt w w.heap.size A xs := fun h0 => by
  obtain ⟨b, cur, rfl, -, hb, -, -, hc⟩ := row_blk h (by omega)
  exact ⟨b, 0, rfl, hb.lt, fun i v hv => by rw [Nat.zero_add]; exact hb.c i (hc i v hv)⟩
set_option maxHeartbeats 1000000 in
set_option maxRecDepth 100000 in
theorem texts_any (A B : Option Addr) (n m c d : Nat) (q : List ByteArray) (w : World) (hn : q.length = n) (hm : q.length = m) (hmax : n ≤ 1000) (h : ListAt w w.heap.size A (strV q)) (h2 : ListAt w w.heap.size B (strV q)) :
    Calls Try.prog 43 #[.slice A n c, .slice B m d] w fun e w' => e = .returned (.bool true) ∧ Below w.heap.size w w' := by
  subst hm
  subst hn
  have hln : (strV q).length = q.length := by unfold strV; simp
  obtain ⟨n, hN⟩ : ∃ n, q.length = n := ⟨_, rfl⟩
  rw [hN] at hmax hln ⊢
  have H := hide h
  have H2 := hide h2
  have Hln := hide hln
  have HN := hide hN
  clear h h2 hln hN
  go_enter Try.func43, Try.ntmps43
  go_wp2_with fail
  go_loopw [5] (fun i wr => ∃ k : Nat, k ≤ n ∧ i = .int .i64 k ∧ Below w.heap.size w wr) (fun i _ => n - (intOf i).toNat)
  case atStart => exact ⟨0, by omega, rfl, Below.refl _ _⟩
  case round =>
    obtain ⟨k, hk, rfl, hB⟩ := hrel
    have HB := hide hB
    clear hB
    by_cases hlt : k < n
    · obtain ⟨b, off, rfl, hb, hc⟩ := (H.out.later HB.out HB.out.size) (by have := Hln.out; omega)
      obtain ⟨b2, off2, rfl, hb2, hc2⟩ := (H2.out.later HB.out HB.out.size) (by have := Hln.out; omega)
      have hlt2 : (k : Int) < n := by omega
      obtain ⟨y, hy⟩ : ∃ y, q[k]? = some y := ⟨_, List.getElem?_eq_getElem (by have := HN.out; omega)⟩
      have hy2 : (strV q)[k]? = some (.string y) := by unfold strV; rw [List.getElem?_map, hy]; rfl
      have c0 := hc k _ hy2
      have c2 := hc2 k _ hy2
      clear hc hc2 hy hy2
      have heq : (y.toList == y.toList) = true := beq_self_eq_true _
      go_wp2_with fail
      go_quiet (fail)
      have hL : Below wr.heap.size wr (wr.drewN nq) := below_drewN (Below.refl _ _) _
      generalize (wr.drewN nq : World) = w2 at hL ⊢
      clear c0 c2 hb hb2
      replace HB := hide (onward HB.out hL)
      clear hL
      go_wp2_with fail
      go_roundw
      case rel => exact ⟨k + 1, by omega, by go_num, HB.out⟩
      case measure => simp [intOf] <;> omega
    · have hkn : k = n := by omega
      subst hkn
      go_wp2
      go_ret
      exact ⟨rfl, HB.out⟩
set_option maxHeartbeats 1000000 in
set_option maxRecDepth 100000 in
theorem ints_any (A B : Option Addr) (n m c d : Nat) (q : List Value) (w : World) (hn : q.length = n) (hm : q.length = m) (hmax : n ≤ 1000) (hq : ∀ v ∈ q, ∃ z, v = .int .i64 z) (h : ListAt w w.heap.size A q) (h2 : ListAt w w.heap.size B q) :
    Calls Try.prog 44 #[.slice A n c, .slice B m d] w fun e w' => e = .returned (.bool true) ∧ Below w.heap.size w w' := by
  subst hm
  subst hn
  obtain ⟨n, hN⟩ : ∃ n, q.length = n := ⟨_, rfl⟩
  rw [hN] at hmax ⊢
  have H := hide h
  have H2 := hide h2
  have HN := hide hN
  have Hq := hide hq
  clear h h2 hN hq
  go_enter Try.func44, Try.ntmps44
  go_wp2_with fail
  go_loopw [5] (fun i wr => ∃ k : Nat, k ≤ n ∧ i = .int .i64 k ∧ Below w.heap.size w wr) (fun i _ => n - (intOf i).toNat)
  case atStart => exact ⟨0, by omega, rfl, Below.refl _ _⟩
  case round =>
    obtain ⟨k, hk, rfl, hB⟩ := hrel
    have HB := hide hB
    clear hB
    by_cases hlt : k < n
    · obtain ⟨b, off, rfl, hb, hc⟩ := (H.out.later HB.out HB.out.size) (by have := HN.out; omega)
      obtain ⟨b2, off2, rfl, hb2, hc2⟩ := (H2.out.later HB.out HB.out.size) (by have := HN.out; omega)
      have hlt2 : (k : Int) < n := by omega
      obtain ⟨y, hy⟩ : ∃ y, q[k]? = some y := ⟨_, List.getElem?_eq_getElem (by have := HN.out; omega)⟩
      obtain ⟨z, rfl⟩ := Hq.out _ (List.mem_of_getElem? hy)
      have c0 := hc k _ hy
      have c2 := hc2 k _ hy
      clear hc hc2 hy
      go_wp2_with fail
      go_quiet (fail)
      have hL : Below wr.heap.size wr (wr.drewN nq) := below_drewN (Below.refl _ _) _
      generalize (wr.drewN nq : World) = w2 at hL ⊢
      clear c0 c2 hb hb2
      replace HB := hide (onward HB.out hL)
      clear hL
      go_wp2_with fail
      go_roundw
      case rel => exact ⟨k + 1, by omega, by go_num, HB.out⟩
      case measure => simp [intOf] <;> omega
    · have hkn : k = n := by omega
      subst hkn
      go_wp2
      go_ret
      exact ⟨rfl, HB.out⟩
end Go.Proofs.Ytiggefmckomilaa
namespace Go.Proofs.Ytiggefmckomilaa
open Go.RowKit

theorem Down_any (a b : Int) (w : World) (ha1 : -4611686018427387903 ≤ a) (hb : 1 ≤ b) (ha2 : a ≤ 4611686018427387903) (_hb2 : b ≤ 4611686018427387903) :
    Calls Try.prog 56 #[.int .i64 a, .int .i64 b] w fun e w' => e = .returned (.int .i64 (a / b)) ∧ w = w' := by
  have hq := tdiv_floor (a := a) (b := b) (by omega)
  by_cases ha : 0 ≤ a
  · have h1 : 0 ≤ a / b := Int.ediv_nonneg ha (by omega)
    have h2 : a / b ≤ a := Int.ediv_le_self b ha
    have h3 : 0 ≤ a % b := Int.emod_nonneg _ (by omega)
    clear hq
    go_enter Try.func56, Try.ntmps56
    go_wp2
    go_ret
    exact ⟨rfl, rfl⟩
  · have h2 : -a / b ≤ -a := Int.ediv_le_self b (by omega)
    have h3 : 0 ≤ -a / b := Int.ediv_nonneg (by omega) (by omega)
    have e1 : a.tdiv b = -(-a / b) := by rw [← Int.neg_neg a, Int.neg_tdiv, Int.neg_neg, Int.tdiv_eq_ediv_of_nonneg (by omega)]
    have h4 : -4611686018427387903 ≤ a.tdiv b := by omega
    have h5 : a.tdiv b ≤ 0 := by omega
    clear e1 h2 h3
    have Hq := hide hq
    clear hq
    go_enter Try.func56, Try.ntmps56
    go_wp2
    all_goals
      go_ret
      exact ⟨ret_int (by rw [Hq.out]; first | rw [if_pos (by assumption)] | rw [if_neg (by omega)]), rfl⟩

theorem Up_any (a b : Int) (w : World) (ha1 : -4611686018427387903 ≤ a) (hb : 1 ≤ b) (ha2 : a ≤ 4611686018427387903) (hb2 : b ≤ 4611686018427387903) :
    Calls Try.prog 57 #[.int .i64 a, .int .i64 b] w fun e w' => e = .returned (.int .i64 (cdiv a b)) ∧ w = w' := by
  have h1 : -4611686018427387903 ≤ -a / b ∧ -a / b ≤ 4611686018427387903 := by
    constructor
    · have := (Int.le_ediv_iff_mul_le (a := -4611686018427387903) (b := -a) (c := b) (by omega)).2 (by omega)
      exact this
    · by_cases h : 0 ≤ -a
      · have := Int.ediv_le_self b h; omega
      · have : -a / b ≤ 0 := by
          have := Int.ediv_lt_of_lt_mul (a := -a) (b := 1) (c := b) (by omega) (by omega)
          omega
        omega
  obtain ⟨h2, h3⟩ := h1
  go_enter Try.func57, Try.ntmps57
  go_wp2_with (go_at_call 56; refine (Down_any _ _ _ (by omega) hb (by omega) hb2).mono ?_; rintro e w' ⟨rfl, rfl⟩)
  go_ret
  exact ⟨rfl, rfl⟩
end Go.Proofs.Ytiggefmckomilaa
namespace Go.Proofs.Ytiggefmckomilaa
open Go Go.RowKit

theorem RefValid_any (a b lo hi : Int) (w : World) :
    Calls Try.prog 55 #[.agg #[.int .i64 a, .int .i64 b], .int .i64 lo, .int .i64 hi] w fun e w' => e = .returned (.bool (inS a b lo hi)) ∧ Below w.heap.size w w' := by
  by_cases h1 : a ≤ b <;> by_cases h2 : lo ≤ a <;> by_cases h3 : b ≤ hi
  all_goals
    go_enter Try.func55, Try.ntmps55
    go_wp2
    go_ret
    exact ⟨by simp [inS, *], (Below.refl _ _).alloc (Nat.le_refl _) _⟩
theorem upD_cdiv {a b : Int} (h : 0 < b) : upD a b = cdiv a b := (cdiv_eq h).symm

end Go.Proofs.Ytiggefmckomilaa
namespace Go.Proofs.Ytiggefmckomilaa
open Go Go.RowKit

def kb0 : List Ent := [exB, exA, exR]
theorem k3 {k : Nat} (h : k < 3) : k = 0 ∨ k = 1 ∨ k = 2 := by omega
end Go.Proofs.Ytiggefmckomilaa
namespace Go.Proofs.Ytiggefmckomilaa
open Go Go.RowKit

end Go.Proofs.Ytiggefmckomilaa
namespace Go.Proofs.Ytiggefmckomilaa
open Go Go.RowKit

/-- The fields of an entry as the reference keeps it. -/
def kdE : Ent → Int
  | .radar _ _ => 1
  | .define _ => 2
  | .test _ => 3
  | .turn _ o => if o = true then 4 else 5
def nmE : Ent → ByteArray
  | .radar n _ => n
  | .turn n _ => n
  | _ => ⟨#[]⟩
def drE : Ent → Int
  | .radar _ d => d
  | _ => 0
def std0 : Std := ⟨⟨#[]⟩, ⟨#[]⟩, 0, 0, 0, 0, 0⟩
def tst0 : Tst := ⟨⟨#[]⟩, ⟨#[]⟩, 0, 0, 0⟩
def sdE : Ent → Std
  | .define s => s
  | _ => std0
def tsE : Ent → Tst
  | .test t => t
  | _ => tst0
def stdL (s : Std) : List Value := [.string s.name, .string s.par, .int .i64 s.lo, .int .i64 s.hi, .int .i64 s.time, .int .i64 s.stop, .int .i64 s.drift]
def tstL (t : Tst) : List Value := [.string t.radar, .string t.std, .int .i64 t.time, .int .i64 t.lo, .int .i64 t.hi]
def rowE (x : Ent) : List Value := [.int .i64 (kdE x), .string (nmE x), .int .i64 (drE x), .string (sdE x).name, .string (sdE x).par, .int .i64 (sdE x).lo, .int .i64 (sdE x).hi, .int .i64 (sdE x).time, .int .i64 (sdE x).stop, .int .i64 (sdE x).drift, .string (tsE x).radar, .string (tsE x).std, .int .i64 (tsE x).time, .int .i64 (tsE x).lo, .int .i64 (tsE x).hi]
/-- The entries, the oldest first. -/
def entN (l : List Ent) (i : Nat) : Ent := l.reverse.getD i (.test tst0)
/-- The book when it had so many entries. -/
def sufL (l : List Ent) (i : Nat) : List Ent := l.drop (l.length - i)
theorem suf_zero (l : List Ent) : sufL l 0 = [] := by unfold sufL; rw [Nat.sub_zero, List.drop_length]
theorem suf_all (l : List Ent) : sufL l l.length = l := by unfold sufL; rw [Nat.sub_self, List.drop_zero]
theorem suf_succ {l : List Ent} {i : Nat} (h : i < l.length) : sufL l (i + 1) = entN l i :: sufL l i := by
  unfold sufL entN
  have h1 : l.length - (i + 1) < l.length := by omega
  rw [List.drop_eq_getElem_cons h1, List.getD_eq_getElem?_getD, List.getElem?_reverse h, List.getElem?_eq_getElem (by omega), show l.length - (i + 1) + 1 = l.length - i by omega]
  congr 1
  simp only [show l.length - 1 - i = l.length - (i + 1) by omega]
  rfl
theorem suf_mem {l : List Ent} {i : Nat} (h : i < l.length) : entN l i ∈ l := by
  have : entN l i ∈ sufL l (i + 1) := by rw [suf_succ h]; exact List.mem_cons_self
  exact List.mem_of_mem_drop this
theorem radar_mem : ∀ {l : List Ent} {n : ByteArray} {d : Int}, GoodB l → Ent.radar n d ∈ l → driftT l n = some d
  | [], _, _, _, h => by cases h
  | e :: l, n, d, hg, h => by
    rcases List.mem_cons.1 h with rfl | h
    · rw [driftT, if_pos rfl]
    · have ih := radar_mem hg.2 h
      cases e with
      | radar m x =>
        rw [driftT]
        by_cases hm : m = n
        · subst hm
          exfalso
          have h0 : radarE l m x = 0 := by have := hg.1; unfold okEnt at this; simpa using this
          unfold radarE at h0
          rw [ih] at h0
          split at h0
          · omega
          split at h0
          · omega
          · simp at h0
        · rw [if_neg hm]; exact ih
      | _ => exact ih
theorem define_mem : ∀ {l : List Ent} {s : Std}, GoodB l → Ent.define s ∈ l → stdT l s.name = some s
  | [], _, _, h => by cases h
  | e :: l, s, hg, h => by
    rcases List.mem_cons.1 h with rfl | h
    · rw [stdT, if_pos rfl]
    · have ih := define_mem hg.2 h
      rw [stdT_cons (fresh_of hg ih)]
      exact ih
def isR (x : Ent) (n : ByteArray) : Bool := decide (kdE x = 1) && decide (nmE x = n)
def isD (x : Ent) (n : ByteArray) : Bool := decide (kdE x = 2) && decide ((sdE x).name = n)
theorem kd_turn (o : Bool) : (if o = true then (4 : Int) else 5) ≠ 1 ∧ (if o = true then (4 : Int) else 5) ≠ 2 ∧ (if o = true then (4 : Int) else 5) ≠ 3 := by cases o <;> decide
theorem drift_next {x : Ent} {l : List Ent} {n : ByteArray} (h : driftT l n = none) (hx : isR x n = false) : driftT (x :: l) n = none := by
  cases x with
  | radar m d =>
    rw [driftT]
    unfold isR kdE nmE at hx
    have : ¬ m = n := by simpa using hx
    rw [if_neg this]
    exact h
  | _ => exact h
theorem drift_hit {l : List Ent} {i : Nat} {n : ByteArray} (hg : GoodB l) (hi : i < l.length) (hx : isR (entN l i) n = true) : driftT l n = some (drE (entN l i)) := by
  have hm := suf_mem hi
  generalize entN l i = x at *
  unfold isR at hx
  simp only [Bool.and_eq_true, decide_eq_true_eq] at hx
  cases x with
  | radar m d => rw [← hx.2]; exact radar_mem hg hm
  | define s => exact absurd hx.1 (by decide : ¬ (2 : Int) = 1)
  | test t => exact absurd hx.1 (by decide : ¬ (3 : Int) = 1)
  | turn m o => exact absurd hx.1 (kd_turn o).1
theorem std_next {x : Ent} {l : List Ent} {n : ByteArray} (h : stdT l n = none) (hx : isD x n = false) : stdT (x :: l) n = none := by
  cases x with
  | define s =>
    rw [stdT]
    unfold isD kdE sdE at hx
    have : ¬ s.name = n := by simpa using hx
    rw [if_neg this]
    exact h
  | _ => exact h
theorem std_hit {l : List Ent} {i : Nat} {n : ByteArray} (hg : GoodB l) (hi : i < l.length) (hx : isD (entN l i) n = true) : stdT l n = some (sdE (entN l i)) := by
  have hm := suf_mem hi
  generalize entN l i = x at *
  unfold isD at hx
  simp only [Bool.and_eq_true, decide_eq_true_eq] at hx
  cases x with
  | define s => rw [← hx.2]; exact define_mem hg hm
  | radar m d => exact absurd hx.1 (by decide : ¬ (1 : Int) = 2)
  | test t => exact absurd hx.1 (by decide : ¬ (3 : Int) = 2)
  | turn m o => exact absurd hx.1 (kd_turn o).2.1
/-- How many entries of a kind. -/
def cntE (k : Int) : List Ent → Nat
  | [] => 0
  | x :: l => cntE k l + if kdE x = k then 1 else 0
theorem cnt_radar : ∀ l : List Ent, cntE 1 l = (radarsT l).length
  | [] => rfl
  | .radar n d :: l => by rw [cntE, if_pos (show kdE (.radar n d) = 1 from rfl), cnt_radar l]; rfl
  | .define s :: l => by rw [cntE, if_neg (show ¬ kdE (.define s) = 1 from (by decide : ¬ (2 : Int) = 1)), cnt_radar l]; rfl
  | .test t :: l => by rw [cntE, if_neg (show ¬ kdE (.test t) = 1 from (by decide : ¬ (3 : Int) = 1)), cnt_radar l]; rfl
  | .turn n o :: l => by rw [cntE, if_neg (show ¬ kdE (.turn n o) = 1 from (kd_turn o).1), cnt_radar l]; rfl
theorem cnt_define : ∀ l : List Ent, cntE 2 l = (stdsT l).length
  | [] => rfl
  | .radar n d :: l => by rw [cntE, if_neg (show ¬ kdE (.radar n d) = 2 from (by decide : ¬ (1 : Int) = 2)), cnt_define l]; rfl
  | .define s :: l => by rw [cntE, if_pos (show kdE (.define s) = 2 from rfl), cnt_define l]; rfl
  | .test t :: l => by rw [cntE, if_neg (show ¬ kdE (.test t) = 2 from (by decide : ¬ (3 : Int) = 2)), cnt_define l]; rfl
  | .turn n o :: l => by rw [cntE, if_neg (show ¬ kdE (.turn n o) = 2 from (kd_turn o).2.1), cnt_define l]; rfl
theorem cnt_test : ∀ l : List Ent, cntE 3 l = (testsT l).length
  | [] => rfl
  | .radar n d :: l => by rw [cntE, if_neg (show ¬ kdE (.radar n d) = 3 from (by decide : ¬ (1 : Int) = 3)), cnt_test l]; rfl
  | .define s :: l => by rw [cntE, if_neg (show ¬ kdE (.define s) = 3 from (by decide : ¬ (2 : Int) = 3)), cnt_test l]; rfl
  | .test t :: l => by rw [cntE, if_pos (show kdE (.test t) = 3 from rfl), cnt_test l]; rfl
  | .turn n o :: l => by rw [cntE, if_neg (show ¬ kdE (.turn n o) = 3 from (kd_turn o).2.2), cnt_test l]; rfl
theorem cnt_le (k : Int) : ∀ l : List Ent, cntE k l ≤ l.length
  | [] => Nat.le_refl _
  | x :: l => by have := cnt_le k l; rw [cntE, List.length_cons]; split <;> omega
def isT (x : Ent) (n : ByteArray) : Bool := decide (nmE x = n) && (decide (kdE x = 4) || decide (kdE x = 5))
theorem wd_next (x : Ent) (l : List Ent) (n : ByteArray) : wdT (x :: l) n = if isT x n = true then decide (kdE x = 4) else wdT l n := by
  cases x with
  | turn m o =>
    rw [wdT]
    unfold isT nmE kdE
    by_cases h : m = n
    · rw [if_pos h]; cases o <;> simp [h]
    · rw [if_neg h]; simp [h]
  | radar m d => rw [if_neg (by unfold isT kdE; simp)]; rfl
  | define s => rw [if_neg (by unfold isT kdE; simp)]; rfl
  | test t => rw [if_neg (by unfold isT kdE; simp)]; rfl
/-- The reference's book in memory. -/
structure RefR (l : List Ent) (p : Nat) (A : Option Addr) (c : Nat) (w : World) : Prop where
  good : GoodB l
  b : Blk w p 117 #[.slice A l.length c]
  row : Rows_ w w.heap.size A l.length 15 (fun i => rowE (entN l i))
theorem RefR.later {l : List Ent} {p c : Nat} {A : Option Addr} {w w' : World} (h : RefR l p A c w) (hb : Below w.heap.size w w') : RefR l p A c w' := ⟨h.good, blk_later h.b hb, (h.row.below hb).more hb.size⟩
theorem good_len : ∀ {l : List Ent}, GoodB l → l.length ≤ 2000
  | [], _ => Nat.zero_le _
  | e :: l, hg => by
    have h : l.length < 2000 := by
      have h0 := hg.1
      cases e with
      | radar n d => have : radarE l n d = 0 := by unfold okEnt at h0; simpa using h0
                     unfold radarE at this; split at this <;> omega
      | define s => have : defineE l s = 0 := by unfold okEnt at h0; simpa using h0
                    exact (defineE_zero this).1
      | test t => have : testE l t = 0 := by unfold okEnt at h0; simpa using h0
                  unfold testE at this; split at this <;> omega
      | turn n o => have : turnE l n o = 0 := by unfold okEnt at h0; simpa using h0
                    exact (turn_zero this).1
    rw [List.length_cons]
    omega
end Go.Proofs.Ytiggefmckomilaa
namespace Go.Proofs.Ytiggefmckomilaa
open Go Go.RowKit

/-- The cells of an entry, and of the book, in any later world. -/
theorem RefR.cells {l : List Ent} {p c i : Nat} {A : Option Addr} {w : World} (h : RefR l p A c w) (hi : i < l.length) : ∃ b off, A = some ⟨b, off, none⟩ ∧ b < w.heap.size ∧ ∀ j v, (rowE (entN l i))[j]? = some v → w.cell? ⟨b, off + i * 15 + j, none⟩ = some v := by
  obtain ⟨b, off, hA, hb, hc⟩ := h.row (by omega)
  exact ⟨b, off, hA, hb, fun j v hv => hc i hi j v hv⟩
def driftV (l : List Ent) (n : ByteArray) : Value := match driftT l n with
  | some d => .tuple #[.int .i64 d, .bool true]
  | none => .tuple #[.int .i64 0, .bool false]
set_option maxHeartbeats 2000000 in
set_option maxRecDepth 100000 in
theorem rdrift_any (l : List Ent) (p c : Nat) (A : Option Addr) (n : ByteArray) (w : World) (hb : RefR l p A c w) :
    Calls Try.prog 69 #[ptrB p, .string n] w fun e w' => e = .returned (driftV l n) ∧ Below w.heap.size w w' := by
  have hl := good_len hb.good
  have hl2 : (l.length : Int) ≤ 2000 := by omega
  have Hb := hide hb
  clear hb
  unfold ptrB
  go_enter Try.func69, Try.ntmps69
  have HB := hide (Below.refl w.heap.size w)
  go_wp2_with fail
  go_loopw [6] (fun i wr => ∃ k : Nat, k ≤ l.length ∧ i = .int .i64 k ∧ driftT (sufL l k) n = none ∧ Below w.heap.size w wr) (fun i _ => l.length - (intOf i).toNat)
  case atStart => exact ⟨0, Nat.zero_le _, rfl, by rw [suf_zero]; rfl, HB.out⟩
  case round =>
    obtain ⟨k, hk, rfl, hd, hB⟩ := hrel
    clear HB
    have HB := hide hB
    have Hd := hide hd
    clear hB hd
    have hb1 := Hb.out.later HB.out
    have x0 := hb1.b.c 0 rfl
    have ltx := hb1.b.lt
    by_cases hlt : k < l.length
    · have hlt2 : (k : Int) < l.length := by omega
      obtain ⟨b, off, hA, hbb, hc⟩ := hb1.cells hlt
      have q0 := hc 0 (.int .i64 (kdE (entN l k))) rfl
      have q1 := hc 1 (.string (nmE (entN l k))) rfl
      have q2 := hc 2 (.int .i64 (drE (entN l k))) rfl
      rw [Nat.add_zero] at q0
      have hhit := fun h => drift_hit (n := n) Hb.out.good hlt h
      have hnx := fun h => drift_next (x := entN l k) (n := n) Hd.out h
      rw [← suf_succ hlt] at hnx
      unfold isR at hhit hnx
      clear hc hb1
      subst hA
      generalize hkd : kdE (entN l k) = kd at *
      generalize hnm : nmE (entN l k) = nm at *
      generalize drE (entN l k) = dr at *
      clear hkd hnm
      by_cases h1 : kd = 1
      · subst h1
        by_cases h2 : nm = n
        · subst h2
          have heq : (nm.toList == nm.toList) = true := beq_self_eq_true _
          have hr := hhit (by simp)
          have hv : driftV l nm = .tuple #[.int .i64 dr, .bool true] := by unfold driftV; rw [hr]
          have Hv := hide hv
          clear hhit hnx hr hv
          go_wp2
          refine bodyPost_ret (v := .tuple #[.int .i64 dr, .bool true]) (by simp [results, Try.results69, go_sem]) rfl ⟨by rw [Hv.out], HB.out⟩
        · have heq : (nm.toList == n.toList) = false := toList_bne h2
          have hr := hnx (by simp [h2])
          have Hr := hide hr
          clear hhit hnx hr
          go_wp2_with fail
          go_roundw
          case rel => exact ⟨k + 1, hlt, by go_num, Hr.out, HB.out⟩
          case measure => simp [intOf] <;> omega
      · have hr := hnx (by simp [h1])
        have Hr := hide hr
        clear hhit hnx hr
        go_wp2_with fail
        go_roundw
        case rel => exact ⟨k + 1, hlt, by go_num, Hr.out, HB.out⟩
        case measure => simp [intOf] <;> omega
    · obtain rfl : k = l.length := by omega
      have hkk : ¬ ((l.length : Int) < l.length) := by omega
      have hv : driftV l n = .tuple #[.int .i64 0, .bool false] := by have := Hd.out; rw [suf_all] at this; unfold driftV; rw [this]
      have Hv := hide hv
      clear hv hb1
      go_wp2
      refine bodyPost_ret (v := .tuple #[.int .i64 0, .bool false]) (by simp [results, Try.results69, go_sem]) rfl ⟨by rw [Hv.out], HB.out⟩
set_option maxHeartbeats 2000000 in
set_option maxRecDepth 100000 in
theorem rcount_any (l : List Ent) (p c : Nat) (A : Option Addr) (kind : Int) (w : World) (hb : RefR l p A c w) :
    Calls Try.prog 70 #[ptrB p, .int .i64 kind] w fun e w' => e = .returned (.int .i64 (cntE kind l : Int)) ∧ Below w.heap.size w w' := by
  have hl := good_len hb.good
  have hl2 : (l.length : Int) ≤ 2000 := by omega
  have Hb := hide hb
  clear hb
  unfold ptrB
  go_enter Try.func70, Try.ntmps70
  have HB := hide (Below.refl w.heap.size w)
  go_wp2_with fail
  go_loopw [5, 6] (fun o i wr => ∃ k : Nat, k ≤ l.length ∧ i = .int .i64 k ∧ o = .int .i64 (cntE kind (sufL l k) : Int) ∧ Below w.heap.size w wr) (fun _ i _ => l.length - (intOf i).toNat)
  case atStart => exact ⟨0, Nat.zero_le _, rfl, by rw [suf_zero]; rfl, HB.out⟩
  case round =>
    obtain ⟨k, hk, rfl, rfl, hB⟩ := hrel
    clear HB
    have HB := hide hB
    clear hB
    have hb1 := Hb.out.later HB.out
    have x0 := hb1.b.c 0 rfl
    have ltx := hb1.b.lt
    by_cases hlt : k < l.length
    · have hlt2 : (k : Int) < l.length := by omega
      obtain ⟨b, off, hA, hbb, hc⟩ := hb1.cells hlt
      have q0 := hc 0 (.int .i64 (kdE (entN l k))) rfl
      rw [Nat.add_zero] at q0
      have hs : cntE kind (sufL l (k + 1)) = cntE kind (sufL l k) + if kdE (entN l k) = kind then 1 else 0 := by rw [suf_succ hlt, cntE]
      have hcl := cnt_le kind (sufL l k)
      have hsl : (sufL l k).length ≤ 2000 := by unfold sufL; rw [List.length_drop]; omega
      generalize cntE kind (sufL l k) = m at *
      generalize kdE (entN l k) = kd at *
      have Hs := hide hs
      clear hc hb1 hs
      subst hA
      by_cases h1 : kd = kind
      · subst h1
        go_wp2_with fail
        go_roundw
        case rel => exact ⟨k + 1, hlt, by go_num, by rw [Hs.out, if_pos rfl]; go_num, HB.out⟩
        case measure => simp [intOf] <;> omega
      · go_wp2_with fail
        go_roundw
        case rel => exact ⟨k + 1, hlt, by go_num, by rw [Hs.out, if_neg h1]; rfl, HB.out⟩
        case measure => simp [intOf] <;> omega
    · obtain rfl : k = l.length := by omega
      have hkk : ¬ ((l.length : Int) < l.length) := by omega
      rw [suf_all]
      clear hb1
      go_wp2
      go_ret
      exact ⟨rfl, HB.out⟩
set_option maxHeartbeats 2000000 in
set_option maxRecDepth 100000 in
theorem rwd_any (l : List Ent) (p c : Nat) (A : Option Addr) (n : ByteArray) (w : World) (hb : RefR l p A c w) :
    Calls Try.prog 89 #[ptrB p, .string n] w fun e w' => e = .returned (.bool (wdT l n)) ∧ Below w.heap.size w w' := by
  have hl := good_len hb.good
  have hl2 : (l.length : Int) ≤ 2000 := by omega
  have Hb := hide hb
  clear hb
  unfold ptrB
  go_enter Try.func89, Try.ntmps89
  have HB := hide (Below.refl w.heap.size w)
  go_wp2_with fail
  go_loopw [5, 6] (fun o i wr => ∃ k : Nat, k ≤ l.length ∧ i = .int .i64 k ∧ o = .bool (wdT (sufL l k) n) ∧ Below w.heap.size w wr) (fun _ i _ => l.length - (intOf i).toNat)
  case atStart => exact ⟨0, Nat.zero_le _, rfl, by rw [suf_zero]; rfl, HB.out⟩
  case round =>
    obtain ⟨k, hk, rfl, rfl, hB⟩ := hrel
    clear HB
    have HB := hide hB
    clear hB
    have hb1 := Hb.out.later HB.out
    have x0 := hb1.b.c 0 rfl
    have ltx := hb1.b.lt
    by_cases hlt : k < l.length
    · have hlt2 : (k : Int) < l.length := by omega
      obtain ⟨b, off, hA, hbb, hc⟩ := hb1.cells hlt
      have q0 := hc 0 (.int .i64 (kdE (entN l k))) rfl
      have q1 := hc 1 (.string (nmE (entN l k))) rfl
      rw [Nat.add_zero] at q0
      have hs := wd_next (entN l k) (sufL l k) n
      rw [← suf_succ hlt] at hs
      unfold isT at hs
      generalize wdT (sufL l k) n = o at *
      generalize kdE (entN l k) = kd at *
      generalize nmE (entN l k) = nm at *
      have Hs := hide hs
      clear hc hb1 hs
      subst hA
      by_cases h2 : nm = n
      · subst h2
        have heq : (nm.toList == nm.toList) = true := beq_self_eq_true _
        by_cases h4 : kd = 4
        · subst h4
          go_wp2_with fail
          go_roundw
          case rel => exact ⟨k + 1, hlt, by go_num, by rw [Hs.out]; simp, HB.out⟩
          case measure => simp [intOf] <;> omega
        · have e4 : (kd == 4) = false := by simp [h4]
          by_cases h5 : kd = 5
          · subst h5
            go_wp2_with fail
            go_roundw
            case rel => exact ⟨k + 1, hlt, by go_num, by rw [Hs.out]; simp, HB.out⟩
            case measure => simp [intOf] <;> omega
          · have e5 : (kd == 5) = false := by simp [h5]
            go_wp2_with fail
            go_roundw
            case rel => exact ⟨k + 1, hlt, by go_num, by rw [Hs.out]; simp [h4, h5], HB.out⟩
            case measure => simp [intOf] <;> omega
      · have heq : (nm.toList == n.toList) = false := toList_bne h2
        go_wp2_with fail
        go_roundw
        case rel => exact ⟨k + 1, hlt, by go_num, by rw [Hs.out]; simp [h2], HB.out⟩
        case measure => simp [intOf] <;> omega
    · obtain rfl : k = l.length := by omega
      have hkk : ¬ ((l.length : Int) < l.length) := by omega
      rw [suf_all]
      clear hb1
      go_wp2
      go_ret
      exact ⟨rfl, HB.out⟩
theorem rIn_any (n lo hi : Int) (w : World) : Calls Try.prog 71 #[.int .i64 n, .int .i64 lo, .int .i64 hi] w fun e w' => e = .returned (.bool (inR n lo hi)) ∧ w = w' := by
  obtain ⟨r, hr⟩ : ∃ r, inR n lo hi = r := ⟨_, rfl⟩
  rw [hr]
  by_cases h1 : lo ≤ n
  · by_cases h2 : n ≤ hi
    · obtain rfl : r = true := by rw [← hr]; exact inR_iff.2 ⟨h1, h2⟩
      go_enter Try.func71, Try.ntmps71
      go_wp2
      go_ret
      exact ⟨rfl, rfl⟩
    · obtain rfl : r = false := by rw [← hr]; unfold inR; simp [h2]
      go_enter Try.func71, Try.ntmps71
      go_wp2
      go_ret
      exact ⟨rfl, rfl⟩
  · obtain rfl : r = false := by rw [← hr]; unfold inR; simp [h1]
    go_enter Try.func71, Try.ntmps71
    go_wp2
    go_ret
    exact ⟨rfl, rfl⟩
end Go.Proofs.Ytiggefmckomilaa
namespace Go.Proofs.Ytiggefmckomilaa
open Go Go.RowKit

theorem ret_world {P : Program} {f : Func} {Post : Ending → World → Prop} {e : Exit} {a : Act} {w : World} (h : ∀ W, W = w → bodyPost P f Post e a W) : bodyPost P f Post e a w := h w rfl
def stdV (s : Std) : Value := .agg #[.string s.name, .string s.par, .int .i64 s.lo, .int .i64 s.hi, .int .i64 s.time, .int .i64 s.stop, .int .i64 s.drift]
def standardV (l : List Ent) (n : ByteArray) : Value := match stdT l n with
  | some s => .tuple #[stdV s, .bool true]
  | none => .tuple #[stdV std0, .bool false]
set_option maxHeartbeats 2000000 in
set_option maxRecDepth 100000 in
theorem rstandard_any (l : List Ent) (p c : Nat) (A : Option Addr) (n : ByteArray) (w : World) (hb : RefR l p A c w) :
    Calls Try.prog 72 #[ptrB p, .string n] w fun e w' => e = .returned (standardV l n) ∧ Below w.heap.size w w' := by
  have hl := good_len hb.good
  have hl2 : (l.length : Int) ≤ 2000 := by omega
  have Hb := hide hb
  clear hb
  unfold ptrB
  go_enter Try.func72, Try.ntmps72
  have HB := hide (Below.refl w.heap.size w)
  go_wp2_with fail
  refine code_world fun W hW => ?_
  have bq0 : Blk W w.heap.size 67 #[.string ⟨#[]⟩, .string ⟨#[]⟩, .int .i64 0, .int .i64 0, .int .i64 0, .int .i64 0, .int .i64 0] := by rw [hW]; exact Blk.new _ _ _
  have LW : Later w W := by rw [hW]; exact ((Below.refl _ _).alloc (Nat.le_refl _) _)
  have szW : W.heap.size = w.heap.size + 1 := by rw [hW]; simp
  clear hW
  replace HB := hide (onward HB.out LW)
  have Hr := hide bq0
  clear bq0 LW szW
  generalize hg : w.heap.size = g at *
  go_wp2_with fail
  go_loopw [6] (fun i wr => ∃ k : Nat, k ≤ l.length ∧ i = .int .i64 k ∧ stdT (sufL l k) n = none ∧ Below g w wr ∧ Blk wr g 67 #[.string ⟨#[]⟩, .string ⟨#[]⟩, .int .i64 0, .int .i64 0, .int .i64 0, .int .i64 0, .int .i64 0]) (fun i _ => l.length - (intOf i).toNat)
  case atStart => exact ⟨0, Nat.zero_le _, rfl, by rw [suf_zero]; rfl, HB.out, Hr.out⟩
  case round =>
    obtain ⟨k, hk, rfl, hd, hB, hR⟩ := hrel
    clear HB Hr
    have HB := hide hB
    have Hd := hide hd
    have Hr := hide hR
    clear hB hd hR
    have hb1 := Hb.out.later (hg ▸ HB.out)
    have x0 := hb1.b.c 0 rfl
    have ltx := hb1.b.lt
    by_cases hlt : k < l.length
    · have hlt2 : (k : Int) < l.length := by omega
      obtain ⟨b, off, hA, hbb, hc⟩ := hb1.cells hlt
      have q0 := hc 0 (.int .i64 (kdE (entN l k))) rfl
      have s3 := hc 3 (.string (sdE (entN l k)).name) rfl
      have s4 := hc 4 (.string (sdE (entN l k)).par) rfl
      have s5 := hc 5 (.int .i64 (sdE (entN l k)).lo) rfl
      have s6 := hc 6 (.int .i64 (sdE (entN l k)).hi) rfl
      have s7 := hc 7 (.int .i64 (sdE (entN l k)).time) rfl
      have s8 := hc 8 (.int .i64 (sdE (entN l k)).stop) rfl
      have s9 := hc 9 (.int .i64 (sdE (entN l k)).drift) rfl
      rw [Nat.add_zero] at q0
      have hhit := fun h => std_hit (n := n) Hb.out.good hlt h
      have hnx := fun h => std_next (x := entN l k) (n := n) Hd.out h
      rw [← suf_succ hlt] at hnx
      unfold isD at hhit hnx
      clear hc hb1
      subst hA
      generalize hkd : kdE (entN l k) = kd at *
      generalize sdE (entN l k) = s at *
      clear hkd
      by_cases h1 : kd = 2
      · subst h1
        obtain ⟨sn, sp, slo, shi, stm, sst, sdr⟩ := s
        simp only at s3 s4 s5 s6 s7 s8 s9 hhit hnx
        by_cases h2 : sn = n
        · subst h2
          have heq : (sn.toList == sn.toList) = true := beq_self_eq_true _
          have hr := hhit (by simp)
          have hv : standardV l sn = .tuple #[.agg #[.string sn, .string sp, .int .i64 slo, .int .i64 shi, .int .i64 stm, .int .i64 sst, .int .i64 sdr], .bool true] := by unfold standardV; rw [hr]; rfl
          have Hv := hide hv
          clear hhit hnx hr hv
          have r0 := Hr.out.c 0 rfl
          have r1 := Hr.out.c 1 rfl
          have r2 := Hr.out.c 2 rfl
          have r3 := Hr.out.c 3 rfl
          have r4 := Hr.out.c 4 rfl
          have r5 := Hr.out.c 5 rfl
          have r6 := Hr.out.c 6 rfl
          have ltr := Hr.out.lt
          have f0 := Hr.out.frozen 0
          have f1 := Hr.out.frozen 1
          have f2 := Hr.out.frozen 2
          have f3 := Hr.out.frozen 3
          have f4 := Hr.out.frozen 4
          have f5 := Hr.out.frozen 5
          have f6 := Hr.out.frozen 6
          go_wp2
          refine ret_world fun W2 hW => ?_
          have hb2 : Blk W2 g 67 #[.string sn, .string sp, .int .i64 slo, .int .i64 shi, .int .i64 stm, .int .i64 sst, .int .i64 sdr] := by
            rw [hW]
            exact ((((((Hr.out.set_ 0 (.string sn)).set_ 1 (.string sp)).set_ 2 (.int .i64 slo)).set_ 3 (.int .i64 shi)).set_ 4 (.int .i64 stm)).set_ 5 (.int .i64 sst)).set_ 6 (.int .i64 sdr)
          have hB2 : Below g w W2 := by
            rw [hW]
            exact ((((((HB.out.setCell (Nat.le_refl _) _).setCell (Nat.le_refl _) _).setCell (Nat.le_refl _) _).setCell (Nat.le_refl _) _).setCell (Nat.le_refl _) _).setCell (Nat.le_refl _) _).setCell (Nat.le_refl _) _
          clear hW r0 r1 r2 r3 r4 r5 r6 ltr f0 f1 f2 f3 f4 f5 f6
          have r0 := hb2.c 0 rfl
          have r1 := hb2.c 1 rfl
          have r2 := hb2.c 2 rfl
          have r3 := hb2.c 3 rfl
          have r4 := hb2.c 4 rfl
          have r5 := hb2.c 5 rfl
          have r6 := hb2.c 6 rfl
          have ltr := hb2.lt
          refine bodyPost_ret (v := .tuple #[.agg #[.string sn, .string sp, .int .i64 slo, .int .i64 shi, .int .i64 stm, .int .i64 sst, .int .i64 sdr], .bool true]) (by simp [results, Try.results72, go_sem, r0, r1, r2, r3, r4, r5, r6, ltr]) rfl ⟨by rw [Hv.out], by first | exact hB2 | (rw [hg]; exact hB2)⟩
        · have heq : (sn.toList == n.toList) = false := toList_bne h2
          have hr := hnx (by simp [h2])
          have Hn := hide hr
          clear hhit hnx hr
          go_wp2_with fail
          go_roundw
          case rel => exact ⟨k + 1, hlt, by go_num, Hn.out, HB.out, Hr.out⟩
          case measure => simp [intOf] <;> omega
      · have hr := hnx (by simp [h1])
        have Hn := hide hr
        clear hhit hnx hr
        go_wp2_with fail
        go_roundw
        case rel => exact ⟨k + 1, hlt, by go_num, Hn.out, HB.out, Hr.out⟩
        case measure => simp [intOf] <;> omega
    · obtain rfl : k = l.length := by omega
      have hkk : ¬ ((l.length : Int) < l.length) := by omega
      have hv : standardV l n = .tuple #[stdV std0, .bool false] := by have := Hd.out; rw [suf_all] at this; unfold standardV; rw [this]
      have Hv := hide hv
      clear hv hb1
      have r0 := Hr.out.c 0 rfl
      have r1 := Hr.out.c 1 rfl
      have r2 := Hr.out.c 2 rfl
      have r3 := Hr.out.c 3 rfl
      have r4 := Hr.out.c 4 rfl
      have r5 := Hr.out.c 5 rfl
      have r6 := Hr.out.c 6 rfl
      have ltr := Hr.out.lt
      have f0 := Hr.out.frozen 0
      have f1 := Hr.out.frozen 1
      have f2 := Hr.out.frozen 2
      have f3 := Hr.out.frozen 3
      have f4 := Hr.out.frozen 4
      have f5 := Hr.out.frozen 5
      have f6 := Hr.out.frozen 6
      go_wp2
      refine ret_world fun W2 hW => ?_
      have hb2 : Blk W2 g 67 #[.string ⟨#[]⟩, .string ⟨#[]⟩, .int .i64 0, .int .i64 0, .int .i64 0, .int .i64 0, .int .i64 0] := by
        rw [hW]
        exact ((((((Hr.out.set_ 0 (.string ⟨#[]⟩)).set_ 1 (.string ⟨#[]⟩)).set_ 2 (.int .i64 0)).set_ 3 (.int .i64 0)).set_ 4 (.int .i64 0)).set_ 5 (.int .i64 0)).set_ 6 (.int .i64 0)
      have hB2 : Below g w W2 := by
        rw [hW]
        exact ((((((HB.out.setCell (Nat.le_refl _) _).setCell (Nat.le_refl _) _).setCell (Nat.le_refl _) _).setCell (Nat.le_refl _) _).setCell (Nat.le_refl _) _).setCell (Nat.le_refl _) _).setCell (Nat.le_refl _) _
      clear hW r0 r1 r2 r3 r4 r5 r6 ltr f0 f1 f2 f3 f4 f5 f6
      have r0 := hb2.c 0 rfl
      have r1 := hb2.c 1 rfl
      have r2 := hb2.c 2 rfl
      have r3 := hb2.c 3 rfl
      have r4 := hb2.c 4 rfl
      have r5 := hb2.c 5 rfl
      have r6 := hb2.c 6 rfl
      have ltr := hb2.lt
      refine bodyPost_ret (v := .tuple #[stdV std0, .bool false]) (by simp [stdV, std0, results, Try.results72, go_sem, r0, r1, r2, r3, r4, r5, r6, ltr]) rfl ⟨by rw [Hv.out], by first | exact hB2 | (rw [hg]; exact hB2)⟩
end Go.Proofs.Ytiggefmckomilaa
