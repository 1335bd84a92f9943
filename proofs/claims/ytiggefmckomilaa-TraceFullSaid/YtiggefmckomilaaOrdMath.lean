/-
  Books that were copied after each act: plain words, and how they lie.
  What is withdrawn is as if it had never been entered: plain words.
  The order of tests: plain words.
-/
import Derived.Test.YtiggefmckomilaaActSame
import Derived.Test.YtiggefmckomilaaTraceDep
set_option linter.unusedSimpArgs false
set_option linter.unusedVariables false
namespace Go.Proofs.Ytiggefmckomilaa
open Go Go.RowKit

theorem Mem.perm {w0 W : World} {ts ts' : List Th} (h : Mem w0 ts W) (hp : ts.Perm ts') : Mem w0 ts' W :=
  ⟨fun t ht => h.all t (hp.mem_iff.2 ht), ((hp.flatMap_right Th.fp).nodup_iff).1 h.nodup, fun k hk => h.low k (((hp.flatMap_right Th.fp).mem_iff).2 hk), h.below⟩
theorem entO_suffix (l : List Ent) (o : Option Ent) : ∃ r, entO l o = r ++ l := by
  unfold entO
  cases o with
  | none => exact ⟨[], rfl⟩
  | some x => by_cases h : okEnt l x = true
              · exact ⟨[x], by simp [h]⟩
              · exact ⟨[], by simp [h]⟩
theorem acts_suffix (ac : Nat → ActR) {j : Nat} : ∀ {n : Nat}, j ≤ n → ∃ r, actsL ac n = r ++ actsL ac j
  | 0, h => by obtain rfl : j = 0 := by omega
               exact ⟨[], rfl⟩
  | n + 1, h => by
    by_cases e : j = n + 1
    · subst e; exact ⟨[], rfl⟩
    · obtain ⟨r, hr⟩ := acts_suffix ac (j := j) (n := n) (by omega)
      obtain ⟨q, hq⟩ := entO_suffix (actsL ac n) (entA (ac n))
      refine ⟨q ++ r, ?_⟩
      rw [actsL, enterL, hq, hr, List.append_assoc]
theorem acts_drop (ac : Nat → ActR) {j n : Nat} (h : j ≤ n) : (actsL ac j).length ≤ (actsL ac n).length ∧ (actsL ac n).drop ((actsL ac n).length - (actsL ac j).length) = actsL ac j := by
  obtain ⟨r, hr⟩ := acts_suffix ac h
  rw [hr, List.length_append]
  refine ⟨by omega, ?_⟩
  rw [show r.length + (actsL ac j).length - (actsL ac j).length = r.length by omega, List.drop_left]
theorem acts_good (ac : Nat → ActR) : ∀ n, GoodB (actsL ac n)
  | 0 => trivial
  | n + 1 => enterL_good (acts_good ac n)
theorem outB_zero (bt : Nat → ByteArray) (nm : ByteArray) : outB bt 0 nm = false := rfl
theorem SameP.refl (l : List Ent) (ac : Nat → ActR) (n : Nat) (bt : Nat → ByteArray) : SameP l l ac n bt 0 :=
  ⟨fun _ _ _ _ => rfl, (fun _ _ h => by rw [outB_zero] at h; cases h), fun _ _ _ => ⟨rfl, rfl⟩⟩
theorem Rows_.none (w : World) (B size : Nat) (f : Nat → List Value) : Rows_ w B none 0 size f := fun h => absurd h (Nat.lt_irrefl _)
/-- The copies, the newest first. -/
def bks (ac : Nat → ActR) : List (Nat × Lay) → List Th
  | [] => []
  | x :: r => .book (actsL ac (r.length + 1)) x.1 x.2 :: bks ac r
theorem bks_get {ac : Nat → ActR} : ∀ {cq : List (Nat × Lay)} {i : Nat} {x : Nat × Lay}, cq[i]? = some x → (bks ac cq)[i]? = some (.book (actsL ac (cq.length - i)) x.1 x.2)
  | [], i, x, h => by simp at h
  | y :: r, 0, x, h => by
    have : y = x := by simpa using h
    subst this
    rfl
  | y :: r, i + 1, x, h => by
    rw [bks, List.getElem?_cons_succ, bks_get (cq := r) (by simpa using h), List.length_cons, Nat.add_sub_add_right]
def ptrsV (cq : List (Nat × Lay)) : List Value := cq.reverse.map fun x => ptrB x.1
theorem ptrsV_cons (x : Nat × Lay) (cq : List (Nat × Lay)) : ptrsV (x :: cq) = ptrsV cq ++ [ptrB x.1] := by unfold ptrsV; rw [List.reverse_cons, List.map_append]; rfl
theorem ptrs_at (cq : List (Nat × Lay)) {j : Nat} (hj : j < cq.length) : ∃ x, cq[cq.length - 1 - j]? = some x ∧ (ptrsV cq)[j]? = some (ptrB x.1) := by
  refine ⟨cq[cq.length - 1 - j]'(by omega), List.getElem?_eq_getElem _, ?_⟩
  unfold ptrsV
  rw [List.getElem?_map, List.getElem?_reverse hj, List.getElem?_eq_getElem (by omega)]
  rfl
end Go.Proofs.Ytiggefmckomilaa
namespace Go.Proofs.Ytiggefmckomilaa
open Go Go.RowKit

/-- An entry that does not speak of some names. -/
def keepE (G : ByteArray → Bool) : Ent → Bool
  | .radar _ _ => true
  | .define s => !G s.name
  | .test t => !G t.std
  | .turn n _ => !G n
def cutL (G : ByteArray → Bool) : List Ent → List Ent
  | [] => []
  | e :: l => if keepE G e = true then e :: cutL G l else cutL G l
/-- The names hold what comes from them. -/
def ClosedG (G : ByteArray → Bool) (l : List Ent) : Prop := ∀ s, Ent.define s ∈ l → s.par ≠ ByteArray.empty → G s.par = true → G s.name = true
theorem ClosedG.tail {G : ByteArray → Bool} {e : Ent} {l : List Ent} (h : ClosedG G (e :: l)) : ClosedG G l := fun s hs => h s (List.mem_cons_of_mem _ hs)
section
variable {G : ByteArray → Bool}
theorem cut_len : ∀ {l : List Ent}, (cutL G l).length ≤ l.length
  | [] => Nat.le_refl _
  | e :: l => by
    have := cut_len (l := l)
    rw [cutL]
    split
    · simp only [List.length_cons]; omega
    · simp only [List.length_cons]; omega
theorem cut_drift : ∀ {l : List Ent} {n : ByteArray}, driftT (cutL G l) n = driftT l n
  | [], _ => rfl
  | .radar m d :: l, n => by rw [cutL, if_pos (show keepE G (.radar m d) = true from rfl), driftT, driftT, cut_drift (l := l)]
  | .define s :: l, n => by
    rw [cutL]
    split
    · exact cut_drift (l := l)
    · exact cut_drift (l := l)
  | .test t :: l, n => by
    rw [cutL]
    split
    · exact cut_drift (l := l)
    · exact cut_drift (l := l)
  | .turn m o :: l, n => by
    rw [cutL]
    split
    · exact cut_drift (l := l)
    · exact cut_drift (l := l)
theorem cut_radars : ∀ {l : List Ent}, radarsT (cutL G l) = radarsT l
  | [] => rfl
  | .radar m d :: l => by rw [cutL, if_pos (show keepE G (.radar m d) = true from rfl), radarsT, radarsT, cut_radars (l := l)]
  | .define s :: l => by
    rw [cutL]
    split
    · exact cut_radars (l := l)
    · exact cut_radars (l := l)
  | .test t :: l => by
    rw [cutL]
    split
    · exact cut_radars (l := l)
    · exact cut_radars (l := l)
  | .turn m o :: l => by
    rw [cutL]
    split
    · exact cut_radars (l := l)
    · exact cut_radars (l := l)
theorem cut_std : ∀ {l : List Ent} {n : ByteArray}, G n = false → stdT (cutL G l) n = stdT l n
  | [], _, _ => rfl
  | .radar m d :: l, n, h => cut_std (l := l) h
  | .define s :: l, n, h => by
    rw [cutL]
    split
    · rw [stdT, stdT, cut_std (l := l) h]
    · rename_i hk
      rw [cut_std (l := l) h, stdT, if_neg]
      intro e
      subst e
      exact hk (by simp [keepE, h])
  | .test t :: l, n, h => by
    rw [cutL]
    split
    · exact cut_std (l := l) h
    · exact cut_std (l := l) h
  | .turn m o :: l, n, h => by
    rw [cutL]
    split
    · exact cut_std (l := l) h
    · exact cut_std (l := l) h
theorem cut_stdG : ∀ {l : List Ent} {n : ByteArray}, G n = true → stdT (cutL G l) n = none
  | [], _, _ => rfl
  | .radar m d :: l, n, h => cut_stdG (l := l) h
  | .define s :: l, n, h => by
    rw [cutL]
    split
    · rename_i hk
      rw [stdT, if_neg, cut_stdG (l := l) h]
      intro e
      subst e
      simp [keepE, h] at hk
    · exact cut_stdG (l := l) h
  | .test t :: l, n, h => by
    rw [cutL]
    split
    · exact cut_stdG (l := l) h
    · exact cut_stdG (l := l) h
  | .turn m o :: l, n, h => by
    rw [cutL]
    split
    · exact cut_stdG (l := l) h
    · exact cut_stdG (l := l) h
theorem cut_wd : ∀ {l : List Ent} {n : ByteArray}, G n = false → wdT (cutL G l) n = wdT l n
  | [], _, _ => rfl
  | .radar m d :: l, n, h => cut_wd (l := l) h
  | .define s :: l, n, h => by
    rw [cutL]
    split
    · exact cut_wd (l := l) h
    · exact cut_wd (l := l) h
  | .test t :: l, n, h => by
    rw [cutL]
    split
    · exact cut_wd (l := l) h
    · exact cut_wd (l := l) h
  | .turn m o :: l, n, h => by
    rw [cutL]
    split
    · rw [wdT, wdT, cut_wd (l := l) h]
    · rename_i hk
      rw [cut_wd (l := l) h, wdT, if_neg]
      intro e
      subst e
      exact hk (by simp [keepE, h])
theorem not_keep {s : Std} (h : G s.name = false) : keepE G (.define s) = true := by simp [keepE, h]
theorem closed_par {l : List Ent} {s : Std} (hc : ClosedG G (.define s :: l)) (h : G s.name = false) (hp : s.par ≠ ByteArray.empty) : G s.par = false := by
  cases hg : G s.par with
  | false => rfl
  | true => rw [hc s List.mem_cons_self hp hg] at h; cases h
theorem cut_chain : ∀ {l : List Ent} {n : ByteArray}, ClosedG G l → G n = false → chainT (cutL G l) n = chainT l n ∧ ∀ m ∈ chainT l n, G m = false
  | [], _, _, _ => ⟨rfl, fun m hm => by cases hm⟩
  | .radar m d :: l, n, hc, h => cut_chain (l := l) hc.tail h
  | .define s :: l, n, hc, h => by
    obtain ⟨ih1, ih2⟩ := cut_chain (l := l) hc.tail h
    by_cases e : s.name = n
    · subst e
      rw [cutL, if_pos (not_keep h), chainT, chainT, if_pos rfl, if_pos rfl]
      by_cases hp : s.par = ByteArray.empty
      · rw [if_pos hp, if_pos hp]
        exact ⟨rfl, fun m hm => by rw [List.mem_singleton.1 hm]; exact h⟩
      · rw [if_neg hp]
        obtain ⟨j1, j2⟩ := cut_chain (l := l) hc.tail (closed_par hc h hp)
        rw [if_neg hp, j1]
        refine ⟨rfl, fun m hm => ?_⟩
        rcases List.mem_cons.1 hm with rfl | hm
        · exact h
        · exact j2 m hm
    · have e2 : chainT (.define s :: l) n = chainT l n := by rw [chainT, if_neg e]
      rw [e2, cutL]
      refine ⟨?_, ih2⟩
      split
      · rw [chainT, if_neg e, ih1]
      · exact ih1
  | .test t :: l, n, hc, h => by
    rw [cutL]
    split
    · exact cut_chain (l := l) hc.tail h
    · exact cut_chain (l := l) hc.tail h
  | .turn m o :: l, n, hc, h => by
    rw [cutL]
    split
    · exact cut_chain (l := l) hc.tail h
    · exact cut_chain (l := l) hc.tail h
theorem any_congr_mem {l : List ByteArray} {f g : ByteArray → Bool} (h : ∀ m ∈ l, f m = g m) : l.any f = l.any g := by
  induction l with
  | nil => rfl
  | cons a l ih => rw [List.any_cons, List.any_cons, h a List.mem_cons_self, ih fun m hm => h m (List.mem_cons_of_mem _ hm)]
theorem cut_void {l : List Ent} {n : ByteArray} (hc : ClosedG G l) (h : G n = false) : voidT (cutL G l) n = voidT l n := by
  obtain ⟨h1, h2⟩ := cut_chain hc h
  unfold voidT
  rw [h1]
  exact any_congr_mem fun m hm => cut_wd (h2 m hm)
theorem cut_made : ∀ {l : List Ent} {n : ByteArray}, ClosedG G l → G n = false → madeT (cutL G l) n = madeT l n
  | [], _, _, _ => rfl
  | .radar m d :: l, n, hc, h => cut_made (l := l) hc.tail h
  | .define s :: l, n, hc, h => by
    have ih := cut_made (l := l) hc.tail h
    by_cases e : s.name = n
    · subst e
      rw [cutL, if_pos (not_keep h), madeT, madeT, if_pos rfl, if_pos rfl]
      by_cases hp : s.par = ByteArray.empty
      · rw [if_pos hp, if_pos hp]
      · have hg := closed_par hc h hp
        rw [if_neg hp, if_neg hp, cut_std hg, cut_made (l := l) hc.tail hg]
    · have e2 : madeT (.define s :: l) n = madeT l n := by rw [madeT, if_neg e]
      rw [e2, cutL]
      split
      · rw [madeT, if_neg e, ih]
      · exact ih
  | .test t :: l, n, hc, h => by
    rw [cutL]
    split
    · exact cut_made (l := l) hc.tail h
    · exact cut_made (l := l) hc.tail h
  | .turn m o :: l, n, hc, h => by
    rw [cutL]
    split
    · exact cut_made (l := l) hc.tail h
    · exact cut_made (l := l) hc.tail h
theorem std_name : ∀ {l : List Ent} {n : ByteArray} {s : Std}, stdT l n = some s → s.name = n
  | [], _, _, h => by cases h
  | .radar m d :: l, n, s, h => std_name (l := l) h
  | .test t :: l, n, s, h => std_name (l := l) h
  | .turn m o :: l, n, s, h => std_name (l := l) h
  | .define x :: l, n, s, h => by
    rw [stdT] at h
    split at h
    · rename_i e; rw [← Option.some.inj h]; exact e
    · exact std_name (l := l) h
theorem cut_value {l : List Ent} {p : Std} {t : Int} (hc : ClosedG G l) (h : G p.name = false) : valueT (cutL G l) p t = valueT l p t := by unfold valueT; rw [cut_made hc h]
theorem cut_gain {l : List Ent} {t : Tst} (hc : ClosedG G l) (h : G t.std = false) : gainT (cutL G l) t = gainT l t := by
  unfold gainT
  rw [cut_std h]
  cases hs : stdT l t.std with
  | none => rfl
  | some s =>
    simp only
    rw [cut_value hc (by rw [std_name hs]; exact h)]
theorem cut_info : ∀ {l : List Ent}, ClosedG G l → testInfo (cutL G l) = (testInfo l).filter fun x => !G x.1.std
  | [], _ => rfl
  | .radar m d :: l, hc => cut_info (l := l) hc.tail
  | .define s :: l, hc => by
    rw [cutL]
    split
    · exact cut_info (l := l) hc.tail
    · exact cut_info (l := l) hc.tail
  | .turn m o :: l, hc => by
    rw [cutL]
    split
    · exact cut_info (l := l) hc.tail
    · exact cut_info (l := l) hc.tail
  | .test t :: l, hc => by
    have ih := cut_info (l := l) hc.tail
    rw [cutL]
    split
    · rename_i hk
      have hg : G t.std = false := by simpa [keepE] using hk
      rw [testInfo, testInfo, List.filter_append, ih, cut_gain hc.tail hg]
      simp [hg]
    · rename_i hk
      have hg : G t.std = true := by simpa [keepE] using hk
      rw [testInfo, List.filter_append, ih]
      simp [hg]
theorem stds_le_len (l : List Ent) : (stdsT l).length ≤ l.length := stds_len_le
theorem tests_le_len : ∀ {l : List Ent}, (testsT l).length ≤ l.length
  | [] => Nat.le_refl _
  | .radar m d :: l => Nat.le_succ_of_le (tests_le_len (l := l))
  | .define s :: l => Nat.le_succ_of_le (tests_le_len (l := l))
  | .turn m o :: l => Nat.le_succ_of_le (tests_le_len (l := l))
  | .test t :: l => Nat.succ_le_succ (tests_le_len (l := l))
/-- Small books answer alike. -/
theorem cut_ok {l : List Ent} {x : Ent} (hc : ClosedG G l) (hk : keepE G x = true) (hl : l.length ≤ 60) (hx : ∀ s, x = .define s → s.par ≠ ByteArray.empty → G s.par = true → okEnt l x = false) : okEnt (cutL G l) x = okEnt l x := by
  have c1 := cut_len (G := G) (l := l)
  have c2 := stds_le_len l
  have c3 := stds_le_len (cutL G l)
  have c4 := tests_le_len (l := l)
  have c5 := tests_le_len (l := cutL G l)
  have n1 : ¬ 2000 ≤ (cutL G l).length := by omega
  have n2 : ¬ 2000 ≤ l.length := by omega
  have n3 : ¬ 64 ≤ (stdsT (cutL G l)).length := by omega
  have n4 : ¬ 64 ≤ (stdsT l).length := by omega
  have n5 : ¬ 512 ≤ (testsT (cutL G l)).length := by omega
  have n6 : ¬ 512 ≤ (testsT l).length := by omega
  cases x with
  | radar n d =>
    show (radarE (cutL G l) n d == 0) = (radarE l n d == 0)
    unfold radarE
    rw [cut_drift, cut_radars, if_neg n1, if_neg n2]
  | turn n o =>
    have hg : G n = false := by simpa [keepE] using hk
    show (turnE (cutL G l) n o == 0) = (turnE l n o == 0)
    unfold turnE
    rw [cut_std hg, cut_wd hg, if_neg n1, if_neg n2]
  | test t =>
    have hg : G t.std = false := by simpa [keepE] using hk
    show (testE (cutL G l) t == 0) = (testE l t == 0)
    unfold testE
    rw [cut_drift, cut_std hg, cut_void hc hg, if_neg n1, if_neg n2]
    cases driftT l t.radar with
    | none => rfl
    | some d =>
      cases stdT l t.std with
      | none => rfl
      | some z =>
        simp only
        rw [if_neg n5, if_neg n6]
  | define s =>
    have hg : G s.name = false := by simpa [keepE] using hk
    by_cases hp : s.par = ByteArray.empty
    · show (defineE (cutL G l) s == 0) = (defineE l s == 0)
      unfold defineE
      rw [cut_std hg, if_neg n1, if_neg n2, if_pos hp, if_pos hp, if_neg n3, if_neg n4, if_pos hp]
    · cases hgp : G s.par with
      | true =>
        rw [hx s rfl hp hgp]
        show (defineE (cutL G l) s == 0) = false
        cases hd : (defineE (cutL G l) s == 0) with
        | false => rfl
        | true =>
          obtain ⟨-, -, -, -, h5⟩ := defineE_zero (by simpa using hd)
          rcases h5 with h5 | ⟨-, -, p, h7, -⟩
          · exact absurd h5 hp
          · rw [cut_stdG hgp] at h7; cases h7
      | false =>
        show (defineE (cutL G l) s == 0) = (defineE l s == 0)
        unfold defineE
        rw [cut_std hg, if_neg n1, if_neg n2, if_neg n3, if_neg n4, if_neg hp, if_neg hp, if_neg hp, cut_std hgp, cut_void hc hgp]
        cases hs : stdT l s.par with
        | none => rfl
        | some p =>
          simp only
          rw [cut_value hc (by rw [std_name hs]; exact hgp)]
/-- Whether an act is left out. -/
def skipA (G : ByteArray → Bool) (a : ActR) : Bool := (decide (a.k % 8 = 2) && G a.pr) || ((decide (a.k % 8 = 1) || decide (a.k % 8 = 3) || decide (a.k % 8 = 4)) && G a.nm)
theorem skip_keep {a : ActR} {x : Ent} (h : entA a = some x) : skipA G a = !keepE G x := by
  unfold entA at h
  unfold skipA
  split at h
  · rename_i e; rw [← Option.some.inj h, e]; simp [keepE]
  split at h
  · rename_i e; rw [← Option.some.inj h, e]; simp [keepE]
  split at h
  · rename_i e; rw [← Option.some.inj h, e]; simp [keepE]
  split at h
  · rename_i e; rw [← Option.some.inj h, e]; simp [keepE]
  split at h
  · rename_i e; rw [← Option.some.inj h, e]; simp [keepE]
  · cases h
def actsS (G : ByteArray → Bool) (ac : Nat → ActR) : Nat → List Ent
  | 0 => []
  | n + 1 => if skipA G (ac n) = true then actsS G ac n else enterL (actsS G ac n) (ac n)
theorem cut_acts (ac : Nat → ActR) {n : Nat} (hn : n ≤ 60) (hc : ClosedG G (actsL ac n)) : ∀ k, k ≤ n → actsS G ac k = cutL G (actsL ac k)
  | 0, _ => rfl
  | k + 1, hk => by
    have ih := cut_acts ac hn hc k (by omega)
    obtain ⟨r, hr⟩ := acts_suffix ac (j := k + 1) (n := n) hk
    have hck : ClosedG G (actsL ac (k + 1)) := fun s hs => hc s (by rw [hr]; exact List.mem_append_right _ hs)
    have hck0 : ClosedG G (actsL ac k) := fun s hs => hck s (by
      rw [actsL]
      unfold enterL entO
      cases entA (ac k) with
      | none => exact hs
      | some x =>
        simp only
        split
        · exact List.mem_cons_of_mem _ hs
        · exact hs)
    have hlen := actsL_len ac k
    rw [actsS, actsL, ih]
    unfold enterL entO
    cases hx : entA (ac k) with
    | none => simp only; split <;> rfl
    | some x =>
      rw [skip_keep hx]
      simp only
      cases hkp : keepE G x with
      | false =>
        rw [if_pos (show (!false) = true from rfl)]
        split
        · rw [cutL, if_neg (by rw [hkp]; decide)]
        · rfl
      | true =>
        rw [if_neg (by decide)]
        have hok := cut_ok (G := G) (l := actsL ac k) hck0 hkp (by omega) (fun s e hp hg => by
          cases hok : okEnt (actsL ac k) x with
          | false => rfl
          | true =>
            subst e
            have : G s.name = true := hck s (by
              rw [actsL]
              unfold enterL entO
              rw [hx]
              simp only
              rw [if_pos hok]
              exact List.mem_cons_self) hp hg
            simp [keepE, this] at hkp)
        rw [hok]
        split
        · rw [cutL, if_pos hkp]
        · rfl
end
/-- What comes from a standard. -/
def depG (l : List Ent) (x : ByteArray) (m : ByteArray) : Bool := memB (chainT l m) x
theorem depG_closed {l : List Ent} {x : ByteArray} (hg : GoodB l) : ClosedG (depG l x) l := fun s hs hp h => by
  have hst : ∀ {l : List Ent} {s : Std}, GoodB l → Ent.define s ∈ l → stdT l s.name = some s := fun {l} => by
    induction l with
    | nil => intro s _ h; cases h
    | cons e l ih =>
      intro s hg h
      rcases List.mem_cons.1 h with rfl | h
      · rw [stdT, if_pos rfl]
      · have := ih hg.2 h
        rw [stdT_cons (fresh_of hg this)]
        exact this
  have h1 := hst hg hs
  unfold depG at h ⊢
  rw [chain_step hg h1, if_neg hp]
  rw [memB_iff] at h ⊢
  exact List.mem_cons_of_mem _ h
theorem depN_mem {l : List Ent} {x m : ByteArray} : memB (depN l x (stdsT l).length) m = depG l x m := by
  rw [Bool.eq_iff_iff, memB_iff]
  unfold depN depG
  rw [List.take_of_length_le (by unfold ordN; simp), List.mem_filter]
  refine ⟨fun h => h.2, fun h => ⟨?_, h⟩⟩
  cases hs : stdT l m with
  | none => rw [chainT_none hs] at h; cases h
  | some s =>
    have := std_some_mem hs
    unfold ordN
    rw [List.map_reverse, List.mem_reverse]
    exact this
theorem outB_mem (q : List ByteArray) (bt : Nat → ByteArray) (h : ∀ i x, q[i]? = some x → bt i = x) (m : ByteArray) : outB bt q.length m = memB q m := by
  rw [Bool.eq_iff_iff, memB_iff]
  unfold outB
  rw [List.any_eq_true]
  constructor
  · rintro ⟨i, hi, h2⟩
    rw [List.mem_range] at hi
    have e : (bt i) = m := by
      cases hd : decide (bt i = m) with
      | true => exact of_decide_eq_true hd
      | false => rw [toList_bne (of_decide_eq_false hd)] at h2; cases h2
    rw [← e, h i _ (List.getElem?_eq_getElem hi)]
    exact List.getElem_mem _
  · intro hm
    obtain ⟨i, hi⟩ := List.mem_iff_getElem?.1 hm
    exact ⟨i, List.mem_range.2 (List.getElem?_eq_some_iff.1 hi).1, by rw [h i m hi]; exact beq_self_eq_true _⟩
/-- Spans alone say what a gain is. -/
theorem meetQ_spans {q q' : List (Nat × (Int × Int))} (h : q.map (·.2) = q'.map (·.2)) : ∀ k, meetQ q k = meetQ q' k := by
  have hd : ∀ i, (q.getD i (0, (0, 0))).2 = (q'.getD i (0, (0, 0))).2 := fun i => by
    have := congrArg (fun z => z[i]?) h
    simp only [List.getElem?_map] at this
    rw [List.getD_eq_getElem?_getD, List.getD_eq_getElem?_getD]
    cases h1 : q[i]? <;> cases h2 : q'[i]? <;> rw [h1, h2] at this <;> simp at this ⊢
    exact this
  intro k
  induction k with
  | zero => exact hd 0
  | succ k ih => rw [meetQ, meetQ, ih, hd]
theorem gainQ_spans {q q' : List (Nat × (Int × Int))} (h : q.map (·.2) = q'.map (·.2)) : (gainQ q).1 = (gainQ q').1 ∧ (gainQ q).2.2 = (gainQ q').2.2 := by
  have hl : q.length = q'.length := by have := congrArg List.length h; simpa using this
  unfold gainQ
  rw [meetQ_spans h, hl]
  split
  · exact ⟨rfl, rfl⟩
  · split <;> exact ⟨rfl, rfl⟩
theorem sel_map (T : List (Tst × (Int × Int))) (n : ByteArray) (vd : ByteArray → Bool) (d time : Int) : ∀ i, (selN T n vd d time i).map (·.2) = ((T.take i).filter fun x => decide (x.1.radar = n) && !vd x.1.std).map fun x => widenS x.2 d x.1.time time
  | 0 => by simp [selN]
  | i + 1 => by
    rw [selN, List.map_append, sel_map T n vd d time i]
    cases h : T[i]? with
    | none => 
      have hl := List.getElem?_eq_none_iff.1 h
      rw [List.take_of_length_le hl, List.take_of_length_le (by omega)]
      simp
    | some x =>
      have hi := (List.getElem?_eq_some_iff.1 h).1
      have hx := (List.getElem?_eq_some_iff.1 h).2
      rw [List.take_succ_eq_append_getElem hi, List.filter_append, List.map_append, hx]
      congr 1
      by_cases h1 : x.1.radar = n <;> by_cases h2 : vd x.1.std = false <;> simp [h1, h2]
theorem gainE_spans {l l' : List Ent} {n : ByteArray} {t : Int} (hd : driftT l n = driftT l' n) (hf : (testInfo l).filter (fun x => decide (x.1.radar = n) && !voidT l x.1.std) = (testInfo l').filter fun x => decide (x.1.radar = n) && !voidT l' x.1.std) :
    (gainE l n t).1 = (gainE l' n t).1 ∧ (gainE l n t).2.2 = (gainE l' n t).2.2 := by
  unfold gainE
  rw [hd]
  cases driftT l' n with
  | none => exact ⟨rfl, rfl⟩
  | some d =>
    simp only
    split
    · exact ⟨rfl, rfl⟩
    · refine gainQ_spans ?_
      rw [sel_map, sel_map, List.take_of_length_le (by rw [testInfo_length]; exact Nat.le_refl _), List.take_of_length_le (by rw [testInfo_length]; exact Nat.le_refl _), hf]
section
variable {l : List Ent} {x : ByteArray}
theorem wd_not {o : Bool} {m : ByteArray} (h : x ≠ m) : wdT (.turn x o :: l) m = wdT l m := by rw [wdT, if_neg h]
theorem void_out {m : ByteArray} (h : depG l x m = false) : voidT (.turn x true :: l) m = voidT l m := by
  show (chainT l m).any _ = _
  exact any_congr_mem fun z hz => wd_not fun e => by
    subst e
    have : depG l x m = true := memB_iff.2 hz
    rw [h] at this
    cases this
theorem void_in {m : ByteArray} (h : depG l x m = true) : voidT (.turn x true :: l) m = true := by
  show (chainT l m).any _ = true
  exact List.any_eq_true.2 ⟨x, memB_iff.1 h, by rw [wdT, if_pos rfl]⟩
/-- A standard is withdrawn: as if it had not been entered. -/
theorem withdrawn_same (ac : Nat → ActR) (n : Nat) (hn : n ≤ 60) (bt : Nat → ByteArray) (m : Nat) (hl : actsL ac n = l) (hb : ∀ z, outB bt m z = depG l x z) : SameP (.turn x true :: l) (actsS (depG l x) ac n) ac n bt m := by
  have hg : GoodB l := by rw [← hl]; exact acts_good ac n
  have hc := depG_closed (x := x) hg
  have e : actsS (depG l x) ac n = cutL (depG l x) l := by rw [← hl] at hc ⊢; exact cut_acts ac hn hc n (Nat.le_refl _)
  rw [e]
  constructor
  · intro i _ ho t
    rw [hb] at ho
    unfold valueE
    rw [cut_std ho, cut_void hc ho, void_out ho, show stdT (.turn x true :: l) (ac i).nm = stdT l (ac i).nm from rfl]
    cases hs : stdT l (ac i).nm with
    | none => rfl
    | some s =>
      simp only
      rw [cut_value hc (by rw [std_name hs]; exact ho)]
      rfl
  · intro i _ ho t
    rw [hb] at ho
    unfold valueE
    rw [void_in ho, show stdT (.turn x true :: l) (ac i).nm = stdT l (ac i).nm from rfl]
    cases hs : stdT l (ac i).nm with
    | none =>
      unfold depG at ho
      rw [chainT_none hs] at ho
      cases ho
    | some s => simp
  · intro i _ t
    refine gainE_spans (by rw [cut_drift]; rfl) ?_
    rw [cut_info hc, List.filter_filter, show testInfo (.turn x true :: l) = testInfo l from rfl]
    refine List.filter_congr fun y _ => ?_
    cases hy : depG l x y.1.std with
    | true => rw [void_in hy]; simp
    | false => rw [void_out hy, cut_void hc hy]; simp
theorem withdrawn_back (ac : Nat → ActR) (n : Nat) (bt : Nat → ByteArray) (hw : wdT l x = false) : SameP l (.turn x false :: .turn x true :: l) ac n bt 0 := by
  have e : wdT (.turn x false :: .turn x true :: l) = wdT l := by
    funext m
    rw [wdT]
    split
    · rename_i e; subst e; exact hw.symm
    · rename_i e; rw [wdT, if_neg e]
  have ev : voidT (.turn x false :: .turn x true :: l) = voidT l := by
    funext m
    unfold voidT
    rw [e]
    rfl
  refine ⟨fun i _ _ t => ?_, (fun i _ h => by rw [outB_zero] at h; cases h), fun i _ t => ?_⟩
  · unfold valueE
    rw [ev]
    rfl
  · unfold gainE
    rw [ev]
    exact ⟨rfl, rfl⟩
theorem turn_zero {o : Bool} (h : turnE l x o = 0) : l.length < 2000 ∧ (∃ s, stdT l x = some s) ∧ wdT l x ≠ o := by
  unfold turnE at h
  split at h
  · exact absurd h (by omega)
  split at h
  · exact absurd h (by omega)
  split at h
  · exact absurd h (by omega)
  rename_i h1 h2 h3
  refine ⟨by omega, ?_, h3⟩
  cases hs : stdT l x with
  | none => rw [hs] at h2; exact absurd rfl h2
  | some s => exact ⟨s, rfl⟩
theorem turn_back (h : turnE l x true = 0) (hl : l.length < 1999) : turnE (.turn x true :: l) x false = 0 ∧ wdT l x = false := by
  obtain ⟨-, ⟨s, hs⟩, h3⟩ := turn_zero h
  refine ⟨?_, by simpa using h3⟩
  unfold turnE
  rw [if_neg (by simp only [List.length_cons]; omega), show stdT (.turn x true :: l) x = stdT l x from rfl, hs, wdT, if_pos rfl]
  rfl
end
/-- The names of the standards that were entered. -/
def isDef (l : List Ent) (a : ActR) : Bool := enterB l a && decide (a.k % 8 = 1)
theorem ord_enter {l : List Ent} {a : ActR} : ordN (enterL l a) = ordN l ++ if isDef l a = true then [a.nm] else [] := by
  unfold isDef
  cases hb : enterB l a with
  | false => rw [enterL_false hb]; simp
  | true =>
    obtain ⟨x, h1, -, h3⟩ := enterL_true hb
    rw [h3]
    unfold entA at h1
    split at h1
    · rename_i e; rw [← Option.some.inj h1, e]; simp [ordN, stdsT]
    split at h1
    · rename_i e; rw [← Option.some.inj h1, e]; simp [ordN, stdsT]
    split at h1
    · rename_i e; rw [← Option.some.inj h1, e]; simp [ordN, stdsT]
    split at h1
    · rename_i e; rw [← Option.some.inj h1, e]; simp [ordN, stdsT]
    split at h1
    · rename_i e; rw [← Option.some.inj h1, e]; simp [ordN, stdsT]
    · cases h1
theorem ord_std : ∀ {l : List Ent} {n : ByteArray}, n ∈ ordN l → ∃ s, stdT l n = some s := fun {l n} h => by
  unfold ordN at h
  rw [List.map_reverse, List.mem_reverse] at h
  induction l with
  | nil => cases h
  | cons e l ih =>
    cases e with
    | define s =>
      rw [stdT]
      by_cases hn : s.name = n
      · rw [if_pos hn]; exact ⟨s, rfl⟩
      · rw [if_neg hn]
        rw [stdsT, List.map_cons] at h
        rcases List.mem_cons.1 h with h | h
        · exact absurd h.symm hn
        · exact ih h
    | _ => exact ih h
theorem depG_self {l : List Ent} {x : ByteArray} {s : Std} (hg : GoodB l) (h : stdT l x = some s) : depG l x x = true := by
  unfold depG
  rw [chain_step hg h]
  exact memB_iff.2 List.mem_cons_self
/-- One name against an act. -/
def skip1 (r : Int) (e2 e1 : Bool) : Bool := (decide (r = 2) && e2) || ((decide (r = 1) || decide (r = 3) || decide (r = 4)) && e1)
def skipR (bt : Nat → ByteArray) (m : Nat) (a : ActR) : Bool := (List.range m).any fun i => skip1 (a.k % 8) ((bt i).toList == a.pr.toList) ((bt i).toList == a.nm.toList)
theorem skipR_succ (bt : Nat → ByteArray) (m : Nat) (a : ActR) : skipR bt (m + 1) a = (skipR bt m a || skip1 (a.k % 8) ((bt m).toList == a.pr.toList) ((bt m).toList == a.nm.toList)) := by unfold skipR; rw [List.range_succ]; simp
theorem skipR_out (bt : Nat → ByteArray) (m : Nat) (a : ActR) : skipR bt m a = skip1 (a.k % 8) (outB bt m a.pr) (outB bt m a.nm) := by
  induction m with
  | zero => unfold skip1; rw [outB_zero, outB_zero]; simp [skipR]
  | succ m ih =>
    rw [skipR_succ, ih, outB_succ, outB_succ]
    unfold skip1
    generalize outB bt m a.pr = a1
    generalize outB bt m a.nm = a2
    generalize ((bt m).toList == a.pr.toList) = a3
    generalize ((bt m).toList == a.nm.toList) = a4
    generalize decide (a.k % 8 = 2) = c1
    generalize (decide (a.k % 8 = 1) || decide (a.k % 8 = 3) || decide (a.k % 8 = 4)) = c2
    cases a1 <;> cases a2 <;> cases a3 <;> cases a4 <;> cases c1 <;> cases c2 <;> rfl
theorem skipR_skip {G : ByteArray → Bool} {bt : Nat → ByteArray} {m : Nat} {a : ActR} (h : ∀ z, outB bt m z = G z) : skipR bt m a = skipA G a := by
  rw [skipR_out, h, h]
  rfl
theorem kind_mod {k : Int} : ∃ q : Int, k.tmod 8 = q ∧ -7 ≤ q ∧ q ≤ 7 ∧ (q + 8).tmod 8 = k % 8 := by
  have hqb : -7 ≤ k.tmod 8 ∧ k.tmod 8 ≤ 7 ∧ (k.tmod 8 + 8) % 8 = k % 8 := by
    rcases Int.le_total 0 k with h | h
    · rw [Int.tmod_eq_emod_of_nonneg h]; omega
    · have e : k.tmod 8 = -((-k).tmod 8) := by rw [Int.neg_tmod]; omega
      rw [e, Int.tmod_eq_emod_of_nonneg (by omega)]; omega
  exact ⟨_, rfl, hqb.1, hqb.2.1, by rw [Int.tmod_eq_emod_of_nonneg (by omega)]; exact hqb.2.2⟩
def btL (q : List ByteArray) (i : Nat) : ByteArray := q.getD i ByteArray.empty
theorem btL_out (q : List ByteArray) (z : ByteArray) : outB (btL q) q.length z = memB q z := outB_mem q (btL q) (fun i x h => by unfold btL; rw [List.getD_eq_getElem?_getD, h]; rfl) z
theorem btL_at {q : List ByteArray} {i : Nat} (h : i < q.length) : q[i]? = some (btL q i) := by unfold btL; rw [List.getD_eq_getElem?_getD, List.getElem?_eq_getElem h]; rfl
theorem rows_ofBlk {w : World} {g : Nat} {t : TypeId} {cs : Array Value} {q : List ByteArray} (h : Blk w g t cs) (hq : ∀ (i : Nat) (v : Value), (strV q)[i]? = some v → cs[i]? = some v) : Rows_ w w.heap.size (some ⟨g, 0, none⟩) q.length 1 (fun i => [.string (btL q i)]) := fun _ =>
  ⟨g, 0, rfl, h.lt, fun i hi j v hv => by
    have hj : j = 0 := by
      have := (List.getElem?_eq_some_iff.1 hv).1
      simp at this
      exact this
    subst hj
    simp at hv
    subst hv
    rw [Nat.zero_add, Nat.mul_one, Nat.add_zero]
    exact h.c i (hq i _ (by unfold strV; rw [List.getElem?_map, btL_at hi]; rfl))⟩
theorem strV_at {q : List ByteArray} {i : Nat} (h : i < q.length) : (strV q)[i]? = some (.string (btL q i)) := by unfold strV; rw [List.getElem?_map, btL_at h]; rfl
theorem strV_len (q : List ByteArray) : (strV q).length = q.length := by unfold strV; simp
theorem strV_snoc (q : List ByteArray) (x : ByteArray) : strV (q ++ [x]) = strV q ++ [.string x] := by unfold strV; simp
theorem ord_len (l : List Ent) : (ordN l).length ≤ l.length := by unfold ordN; simp; exact stds_len_le
theorem depN_len2 (l : List Ent) (x : ByteArray) : (depN l x (stdsT l).length).length ≤ l.length := Nat.le_trans depN_len stds_len_le
end Go.Proofs.Ytiggefmckomilaa
namespace Go.Proofs.Ytiggefmckomilaa
open Go Go.RowKit

/-- Books with the same radars and standards, and nothing withdrawn. -/
structure SameD (l l' : List Ent) : Prop where
  drift : ∀ n, driftT l n = driftT l' n
  radars : radarsT l = radarsT l'
  stds : stdsT l = stdsT l'
  std : ∀ n, stdT l n = stdT l' n
  made : ∀ n, madeT l n = madeT l' n
  wd : ∀ n, wdT l n = false
  wd' : ∀ n, wdT l' n = false
section
variable {l l' : List Ent}
theorem void_none (h : ∀ n, wdT l n = false) (n : ByteArray) : voidT l n = false := List.any_eq_false.2 fun m _ => by rw [h m]; simp
theorem SameD.sym (h : SameD l l') : SameD l' l := ⟨fun n => (h.drift n).symm, h.radars.symm, h.stds.symm, fun n => (h.std n).symm, fun n => (h.made n).symm, h.wd', h.wd⟩
theorem SameD.void (h : SameD l l') (n : ByteArray) : voidT l n = false := void_none h.wd n
theorem SameD.value (h : SameD l l') (s : Std) (t : Int) : valueT l s t = valueT l' s t := by unfold valueT; rw [h.made]
theorem SameD.gain (h : SameD l l') (t : Tst) : gainT l t = gainT l' t := by
  unfold gainT
  rw [h.std]
  cases stdT l' t.std with
  | none => rfl
  | some s => simp only; rw [h.value]
theorem SameD.valueE (h : SameD l l') (n : ByteArray) (t : Int) : Go.Proofs.Ytiggefmckomilaa.valueE l n t = Go.Proofs.Ytiggefmckomilaa.valueE l' n t := by
  unfold Go.Proofs.Ytiggefmckomilaa.valueE
  rw [h.std, h.void, h.sym.void]
  cases stdT l' n with
  | none => rfl
  | some s => simp only; rw [h.value]
theorem SameD.nil : SameD [] [] := ⟨fun _ => rfl, rfl, rfl, fun _ => rfl, fun _ => rfl, fun _ => rfl, fun _ => rfl⟩
theorem SameD.radar (h : SameD l l') (n : ByteArray) (d : Int) : SameD (.radar n d :: l) (.radar n d :: l') :=
  ⟨fun m => by rw [driftT, driftT, h.drift], by rw [radarsT, radarsT, h.radars], h.stds, h.std, h.made, h.wd, h.wd'⟩
theorem SameD.define (h : SameD l l') (s : Std) : SameD (.define s :: l) (.define s :: l') :=
  ⟨h.drift, h.radars, by rw [stdsT, stdsT, h.stds], fun n => by rw [stdT, stdT, h.std], fun n => by rw [madeT, madeT, h.std, h.made, h.made], h.wd, h.wd'⟩
theorem SameD.testL (h : SameD l l') (t : Tst) : SameD (.test t :: l) l' := ⟨h.drift, h.radars, h.stds, h.std, h.made, h.wd, h.wd'⟩
theorem SameD.testR (h : SameD l l') (t : Tst) : SameD l (.test t :: l') := (h.sym.testL t).sym
theorem SameD.ok (h : SameD l l') {x : Ent} (hl : l.length ≤ 100) (hl' : l'.length ≤ 100) (hx : ∀ n o, x ≠ .turn n o) : okEnt l x = okEnt l' x := by
  have n1 : ¬ 2000 ≤ l.length := by omega
  have n2 : ¬ 2000 ≤ l'.length := by omega
  cases x with
  | radar n d =>
    show (radarE l n d == 0) = (radarE l' n d == 0)
    unfold radarE
    rw [h.drift, h.radars, if_neg n1, if_neg n2]
  | define s =>
    show (defineE l s == 0) = (defineE l' s == 0)
    unfold defineE
    rw [h.std, h.stds, if_neg n1, if_neg n2, h.std, h.void, h.sym.void]
    cases stdT l' s.par with
    | none => rfl
    | some p => simp only; rw [h.value]
  | test t =>
    have n3 : ¬ 512 ≤ (testsT l).length := by have := tests_le_len (l := l); omega
    have n4 : ¬ 512 ≤ (testsT l').length := by have := tests_le_len (l := l'); omega
    show (testE l t == 0) = (testE l' t == 0)
    unfold testE
    rw [h.drift, h.std, if_neg n1, if_neg n2, h.void, h.sym.void]
    cases driftT l' t.radar with
    | none => rfl
    | some d =>
      cases stdT l' t.std with
      | none => rfl
      | some s => simp only; rw [if_neg n3, if_neg n4]
  | turn n o => exact absurd rfl (hx n o)
end
/-- A test that was accepted. -/
def TestIn (l : List Ent) (t : Tst) : Prop := (∃ d, driftT l t.radar = some d) ∧ inR t.time 0 4294967296 = true ∧ inS t.lo t.hi 1 1000000000 = true ∧ ∃ s, stdT l t.std = some s ∧ inR t.time s.time s.stop = true
theorem testE_in {l : List Ent} {t : Tst} (h : testE l t = 0) : TestIn l t := by
  unfold testE at h
  split at h
  · exact absurd h (by omega)
  split at h
  · rename_i d s hd hs
    split at h
    · exact absurd h (by omega)
    split at h
    · exact absurd h (by omega)
    rename_i h5
    split at h
    · exact absurd h (by omega)
    rename_i h6
    rw [Bool.not_eq_false, Bool.and_eq_true] at h5
    simp only [Bool.or_eq_true, not_or, Bool.not_eq_true, Bool.not_eq_false'] at h6
    exact ⟨⟨d, hd⟩, h5.1, h5.2, s, hs, h6.2⟩
  · exact absurd h (by omega)
theorem TestIn.zero {l : List Ent} {t : Tst} (h : TestIn l t) (hl : l.length ≤ 100) (hw : ∀ n, wdT l n = false) : testE l t = 0 := by
  obtain ⟨⟨d, h1⟩, h2, h3, s, h4, h5⟩ := h
  have n3 : ¬ 512 ≤ (testsT l).length := by have := tests_le_len (l := l); omega
  unfold testE
  rw [if_neg (by omega), h1, h4]
  simp only
  rw [if_neg n3, h2, h3, void_none hw, h5]
  rfl
theorem TestIn.mono {e : Ent} {l : List Ent} {t : Tst} (hg : GoodB (e :: l)) (h : TestIn l t) : TestIn (e :: l) t := by
  obtain ⟨⟨d, h1⟩, h2, h3, s, h4, h5⟩ := h
  refine ⟨?_, h2, h3, s, by rw [stdT_cons (fresh_of hg h4)]; exact h4, h5⟩
  cases e with
  | radar m x =>
    rw [driftT]
    by_cases e : m = t.radar
    · rw [if_pos e]; exact ⟨x, rfl⟩
    · rw [if_neg e]; exact ⟨d, h1⟩
  | _ => exact ⟨d, h1⟩
theorem TestIn.same {l l' : List Ent} {t : Tst} (h : TestIn l t) (hs : SameD l l') : TestIn l' t := by
  obtain ⟨⟨d, h1⟩, h2, h3, s, h4, h5⟩ := h
  exact ⟨⟨d, by rw [← hs.drift]; exact h1⟩, h2, h3, s, by rw [← hs.std]; exact h4, h5⟩
theorem good_tin : ∀ {l : List Ent}, GoodB l → ∀ t ∈ testsT l, TestIn l t
  | [], _, t, h => by cases h
  | .radar n d :: l, hg, t, h => (good_tin (l := l) hg.2 t h).mono hg
  | .define s :: l, hg, t, h => (good_tin (l := l) hg.2 t h).mono hg
  | .turn n o :: l, hg, t, h => (good_tin (l := l) hg.2 t h).mono hg
  | .test x :: l, hg, t, h => by
    rw [testsT] at h
    rcases List.mem_cons.1 h with rfl | h
    · exact (testE_in (by have := hg.1; unfold okEnt at this; simpa using this)).mono hg
    · exact (good_tin (l := l) hg.2 t h).mono hg
/-- The gain by a test stays. -/
theorem gainT_cons {e : Ent} {l : List Ent} {t : Tst} (hg : GoodB (e :: l)) (h : TestIn l t) : gainT (e :: l) t = gainT l t := by
  obtain ⟨-, -, -, s, h4, -⟩ := h
  have hf := fresh_of hg h4
  unfold gainT
  rw [stdT_cons hf, h4]
  simp only
  unfold valueT
  rw [std_name h4, madeT_cons hf]
theorem info_map : ∀ {l : List Ent}, GoodB l → testInfo l = (testsT l).reverse.map fun t => (t, gainT l t)
  | [], _ => rfl
  | e :: l, hg => by
    have ih := info_map (l := l) hg.2
    have hc : (testsT l).reverse.map (fun t => (t, gainT (e :: l) t)) = (testsT l).reverse.map fun t => (t, gainT l t) :=
      List.map_congr_left fun t ht => by rw [gainT_cons hg (good_tin hg.2 t (List.mem_reverse.1 ht))]
    cases e with
    | test x =>
      rw [testInfo, testsT, List.reverse_cons, List.map_append, hc, ih]
      simp only [List.map_cons, List.map_nil]
      rfl
    | _ => exact ih.trans hc.symm
/-- A gain is no less than nothing. -/
theorem gain_le {l : List Ent} {t : Tst} (hg : GoodB l) (h : TestIn l t) : 1 ≤ (gainT l t).1 ∧ (gainT l t).1 ≤ (gainT l t).2 := by
  obtain ⟨-, k1, k2, s, hs, -⟩ := h
  obtain ⟨a1, a2⟩ := inR_iff.1 k1
  obtain ⟨b1, b2, b3⟩ := inS_iff.1 k2
  obtain ⟨hq, hqn, hqm⟩ := good_std hg hs
  have hvb := widenS_bd (s := madeT l s.name) (d := s.drift) (f := s.time) (t := t.time) hq.d0 hq.d1 hq.t0 (by have := hq.t1; have := hq.t2; omega) a1 a2 (by rw [hqn]; exact hqm.2.1) (by rw [hqn]; have := hqm.1; have := hqm.2.1; omega)
  have hG : gainT l t = (max 1 (1000 * t.lo / (valueT l s t.time).2), upD (1000 * t.hi) (valueT l s t.time).1) := by unfold gainT; rw [hs]
  unfold valueT at hG
  rw [hG]
  generalize widenS (madeT l s.name) s.drift s.time t.time = v at *
  obtain ⟨v1, v2, -⟩ := hvb
  simp only
  obtain ⟨u1, u2, u3, u4⟩ := upD_bd (a := 1000 * t.hi) (b := v.1) (by omega) (by omega)
  obtain ⟨d1, d2, d3⟩ := div_bd (a := 1000 * t.lo) (b := v.2) (by omega) (by omega)
  have one : 1 ≤ upD (1000 * t.hi) v.1 := by
    rcases Int.lt_or_le 0 (upD (1000 * t.hi) v.1) with h | h
    · omega
    · have h0 : upD (1000 * t.hi) v.1 = 0 := by omega
      rw [h0] at u3
      omega
  have lt2 : 1000 * t.lo / v.2 ≤ upD (1000 * t.hi) v.1 := by
    have m1 : v.1 * (1000 * t.lo / v.2) ≤ v.1 * upD (1000 * t.hi) v.1 := by
      have := Int.mul_le_mul_of_nonneg_right v2 d1
      omega
    exact Int.le_of_mul_le_mul_left m1 (by omega)
  omega
/-- What spans have in common, by what they are. -/
theorem meetQ_ends (q : List (Nat × (Int × Int))) : ∀ k, k ≤ q.length → (∀ i, i < k → (q.getD i (0, (0, 0))).2.1 ≤ (meetQ q k).1 ∧ (meetQ q k).2 ≤ (q.getD i (0, (0, 0))).2.2) ∧ (0 < q.length → (∃ i, i < q.length ∧ (q.getD i (0, (0, 0))).2.1 = (meetQ q k).1) ∧ ∃ i, i < q.length ∧ (q.getD i (0, (0, 0))).2.2 = (meetQ q k).2)
  | 0, _ => ⟨fun i hi => absurd hi (Nat.not_lt_zero _), fun h => ⟨⟨0, h, rfl⟩, 0, h, rfl⟩⟩
  | k + 1, hk => by
    obtain ⟨a, b⟩ := meetQ_ends q k (by omega)
    rw [meetQ]
    simp only
    refine ⟨fun i hi => ?_, fun h => ?_⟩
    · by_cases e : i = k
      · subst e; omega
      · have := a i (by omega); omega
    · obtain ⟨⟨i, hi, e1⟩, j, hj, e2⟩ := b h
      constructor
      · by_cases hm : (meetQ q k).1 ≤ (q.getD k (0, (0, 0))).2.1
        · exact ⟨k, by omega, by omega⟩
        · exact ⟨i, hi, by omega⟩
      · by_cases hm : (q.getD k (0, (0, 0))).2.2 ≤ (meetQ q k).2
        · exact ⟨k, by omega, by omega⟩
        · exact ⟨j, hj, by omega⟩
theorem getD_mem {q : List (Nat × (Int × Int))} {i : Nat} (h : i < q.length) : q.getD i (0, (0, 0)) ∈ q := by rw [List.getD_eq_getElem?_getD, List.getElem?_eq_getElem h]; exact List.getElem_mem _
theorem mem_getD {q : List (Nat × (Int × Int))} {y : Nat × (Int × Int)} (h : y ∈ q) : ∃ i, i < q.length ∧ q.getD i (0, (0, 0)) = y := by
  obtain ⟨i, hi⟩ := List.mem_iff_getElem?.1 h
  exact ⟨i, (List.getElem?_eq_some_iff.1 hi).1, by rw [List.getD_eq_getElem?_getD, hi]; rfl⟩
/-- More spans have less in common. -/
theorem meet_sub {q q' : List (Nat × (Int × Int))} (h0 : 0 < q.length) (h : ∀ s ∈ q.map (·.2), s ∈ q'.map (·.2)) : (meetQ q q.length).1 ≤ (meetQ q' q'.length).1 ∧ (meetQ q' q'.length).2 ≤ (meetQ q q.length).2 := by
  obtain ⟨-, b⟩ := meetQ_ends q q.length (Nat.le_refl _)
  obtain ⟨a', -⟩ := meetQ_ends q' q'.length (Nat.le_refl _)
  obtain ⟨⟨i, hi, e1⟩, j, hj, e2⟩ := b h0
  have key : ∀ i, i < q.length → ∃ k, k < q'.length ∧ (q'.getD k (0, (0, 0))).2 = (q.getD i (0, (0, 0))).2 := fun i hi => by
    obtain ⟨y, hy, e⟩ := List.mem_map.1 (h _ (List.mem_map.2 ⟨_, getD_mem hi, rfl⟩))
    obtain ⟨k, hk, ek⟩ := mem_getD hy
    exact ⟨k, hk, by rw [ek]; exact e⟩
  obtain ⟨k1, hk1, f1⟩ := key i hi
  obtain ⟨k2, hk2, f2⟩ := key j hj
  have g1 := (a' k1 hk1).1
  have g2 := (a' k2 hk2).2
  rw [f1, e1] at g1
  rw [f2, e2] at g2
  exact ⟨g1, g2⟩
theorem gainQ_perm {q q' : List (Nat × (Int × Int))} (h : ∀ s, s ∈ q.map (·.2) ↔ s ∈ q'.map (·.2)) : (gainQ q).1 = (gainQ q').1 ∧ (gainQ q).2.2 = (gainQ q').2.2 := by
  by_cases h0 : q.length = 0
  · have h1 : q'.length = 0 := by
      cases q' with
      | nil => rfl
      | cons y q' =>
        have := (h y.2).2 (by simp)
        rw [List.length_eq_zero_iff.1 h0] at this
        cases this
    rw [gainQ_empty h0, gainQ_empty h1]
    exact ⟨rfl, rfl⟩
  · have h1 : q'.length ≠ 0 := by
      cases q with
      | nil => exact absurd rfl h0
      | cons y q =>
        have := (h y.2).1 (by simp)
        intro e
        rw [List.length_eq_zero_iff.1 e] at this
        cases this
    obtain ⟨a1, a2⟩ := meet_sub (q := q) (q' := q') (by omega) (fun s hs => (h s).1 hs)
    obtain ⟨b1, b2⟩ := meet_sub (q := q') (q' := q) (by omega) (fun s hs => (h s).2 hs)
    have e1 : meetQ q q.length = meetQ q' q'.length := Prod.ext (by omega) (by omega)
    by_cases hm : (meetQ q q.length).1 ≤ (meetQ q q.length).2
    · rw [gainQ_meet h0 hm, gainQ_meet h1 (by rw [← e1]; exact hm), e1]
      exact ⟨rfl, rfl⟩
    · rw [gainQ_off h0 hm, gainQ_off h1 (by rw [← e1]; exact hm)]
      exact ⟨rfl, rfl⟩
/-- The first pair that is found. -/
theorem rowF_spec (cf : Nat → Nat → Bool) (i n : Nat) : ∀ m j, j + m = n → (∀ b, rowF cf i j m = some b → j ≤ b ∧ b < n ∧ cf i b = true) ∧ (rowF cf i j m = none → ∀ b, j ≤ b → b < n → cf i b = false)
  | 0, j, h => ⟨(fun b hb => by rw [rowF] at hb; cases hb), fun _ b h1 h2 => by omega⟩
  | m + 1, j, h => by
    obtain ⟨a, b⟩ := rowF_spec cf i n m (j + 1) (by omega)
    rw [rowF]
    by_cases hc : cf i j = true
    · rw [if_pos hc]
      exact ⟨fun b hb => by rw [← Option.some.inj hb]; exact ⟨Nat.le_refl _, by omega, hc⟩, fun h => by cases h⟩
    · rw [if_neg hc]
      refine ⟨fun x hx => ?_, fun hx x h1 h2 => ?_⟩
      · obtain ⟨p, q, r⟩ := a x hx; exact ⟨by omega, q, r⟩
      · by_cases e : x = j
        · subst e; simpa using hc
        · exact b hx x (by omega) h2
theorem findF_spec (cf : Nat → Nat → Bool) (n : Nat) : ∀ m i, i + m = n → (∀ p, findF cf n i m = some p → p.1 < p.2 ∧ p.2 < n ∧ cf p.1 p.2 = true) ∧ (findF cf n i m = none → ∀ a b, i ≤ a → a < b → b < n → cf a b = false)
  | 0, i, h => ⟨(fun p hp => by rw [findF] at hp; cases hp), fun _ a b h1 h2 h3 => by omega⟩
  | m + 1, i, h => by
    obtain ⟨x, y⟩ := findF_spec cf n m (i + 1) (by omega)
    obtain ⟨u, v⟩ := rowF_spec cf i n (n - (i + 1)) (i + 1) (by omega)
    rw [findF]
    cases hr : rowF cf i (i + 1) (n - (i + 1)) with
    | some j =>
      refine ⟨fun p hp => ?_, fun h => by cases h⟩
      obtain ⟨u1, u2, u3⟩ := u j hr
      rw [← Option.some.inj hp]
      exact ⟨by simp only; omega, u2, u3⟩
    | none =>
      refine ⟨fun p hp => x p hp, fun hp a b h1 h2 h3 => ?_⟩
      by_cases e : a = i
      · subst e; exact v hr b (by omega) h3
      · exact y hp a b (by omega) h2 h3
/-- A contradiction is one of two. -/
theorem off_pair {q : List (Nat × (Int × Int))} (h0 : q.length ≠ 0) (hs : ∀ y ∈ q, y.2.1 ≤ y.2.2) (hm : ¬ (meetQ q q.length).1 ≤ (meetQ q q.length).2) : ∃ i j, findF (offQ q) q.length 0 q.length = some (i, j) ∧ i < j ∧ j < q.length ∧ offQ q i j = true := by
  obtain ⟨x, y⟩ := findF_spec (offQ q) q.length q.length 0 (by omega)
  obtain ⟨-, b⟩ := meetQ_ends q q.length (Nat.le_refl _)
  obtain ⟨⟨i, hi, e1⟩, j, hj, e2⟩ := b (by omega)
  have si := hs _ (getD_mem hi)
  have sj := hs _ (getD_mem hj)
  cases hf : findF (offQ q) q.length 0 q.length with
  | some p => exact ⟨p.1, p.2, rfl, x p hf⟩
  | none =>
    have z := y hf
    exfalso
    rcases Nat.lt_trichotomy i j with h | h | h
    · have := z i j (Nat.zero_le _) h hj
      unfold offQ offB at this
      simp only [Bool.or_eq_false_iff, decide_eq_false_iff_not] at this
      omega
    · subst h; omega
    · have := z j i (Nat.zero_le _) h hi
      unfold offQ offB at this
      simp only [Bool.or_eq_false_iff, decide_eq_false_iff_not] at this
      omega
theorem gainQ_two {a b : Int × Int} (h : offB a b = true) : gainQ [(0, a), (1, b)] = ((0, 0), (0, 1), 14) := by
  have hm : meetQ [(0, a), (1, b)] 2 = (max (max a.1 a.1) b.1, min (min a.2 a.2) b.2) := rfl
  unfold offB at h
  simp only [Bool.or_eq_true, decide_eq_true_eq] at h
  rw [gainQ_off (by simp) (by rw [show ([(0, a), (1, b)] : List (Nat × (Int × Int))).length = 2 from rfl, hm]; simp only; omega)]
  have hf : findF (offQ [(0, a), (1, b)]) 2 0 2 = some (0, 1) := by
    have ho : offQ [(0, a), (1, b)] 0 1 = true := by
      show offB a b = true
      unfold offB
      simpa using h
    show (match rowF (offQ [(0, a), (1, b)]) 0 1 1 with | some j => some (0, j) | none => findF (offQ [(0, a), (1, b)]) 2 1 1) = some (0, 1)
    rw [rowF, if_pos ho]
  rw [show ([(0, a), (1, b)] : List (Nat × (Int × Int))).length = 2 from rfl, hf]
  rfl
/-- The numbers of the tests that count. -/
theorem selN_num (T : List (Tst × (Int × Int))) (n : ByteArray) (vd : ByteArray → Bool) (d time : Int) : ∀ i, (∀ y ∈ selN T n vd d time i, y.1 < i ∧ ∃ x, T[y.1]? = some x ∧ x.1.radar = n ∧ y.2 = widenS x.2 d x.1.time time) ∧ (selN T n vd d time i).Pairwise fun a b => a.1 < b.1
  | 0 => ⟨(fun y h => by cases h), List.Pairwise.nil⟩
  | i + 1 => by
    obtain ⟨a, b⟩ := selN_num T n vd d time i
    rw [selN]
    have hlast : ∀ y ∈ (match T[i]? with | some x => if x.1.radar = n ∧ vd x.1.std = false then [(i, widenS x.2 d x.1.time time)] else [] | none => ([] : List (Nat × (Int × Int)))), y.1 = i ∧ ∃ x, T[i]? = some x ∧ x.1.radar = n ∧ y.2 = widenS x.2 d x.1.time time := fun y hy => by
      cases hT : T[i]? with
      | none => rw [hT] at hy; cases hy
      | some x =>
        rw [hT] at hy
        simp only at hy
        split at hy
        · rename_i hc
          rw [List.mem_singleton] at hy
          subst hy
          exact ⟨rfl, x, rfl, hc.1, rfl⟩
        · cases hy
    refine ⟨fun y hy => ?_, List.pairwise_append.2 ⟨b, ?_, fun x hx y hy => ?_⟩⟩
    · rcases List.mem_append.1 hy with h | h
      · obtain ⟨p, q⟩ := a y h; exact ⟨by omega, q⟩
      · obtain ⟨p, x, h1, h2⟩ := hlast y h
        exact ⟨by omega, x, by rw [p]; exact h1, h2⟩
    · split
      · split
        · exact List.pairwise_singleton _ _
        · exact List.Pairwise.nil
      · exact List.Pairwise.nil
    · have := (a x hx).1
      have := (hlast y hy).1
      omega
theorem selN_app (T : List (Tst × (Int × Int))) (x : Tst × (Int × Int)) (n : ByteArray) (vd : ByteArray → Bool) (d time : Int) : ∀ i, i ≤ T.length → selN (T ++ [x]) n vd d time i = selN T n vd d time i
  | 0, _ => rfl
  | i + 1, h => by rw [selN, selN, selN_app T x n vd d time i (by omega), List.getElem?_append_left (by omega)]
end Go.Proofs.Ytiggefmckomilaa
