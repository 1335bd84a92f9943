/-
  Rows of acts in memory.
  Chains of standards and what depends on them: plain words.
  A loop's code, taken out of a function.
  The law TraceChains: its first loop.
  The law TraceChains: its fourth loop.
  The law TraceChains: its fifth loop.
-/
import Derived.Test.YtiggefmckomilaaKnownMath
set_option linter.unusedSimpArgs false
set_option linter.unusedVariables false
namespace Go.Proofs.Ytiggefmckomilaa
open Go Go.RowKit

theorem actInfo : (Try.prog.info? 59).map (fun i => (i.zero, i.size, i.bytes)) = some (some (.agg #[.int .i64 0, .string ⟨#[]⟩, .string ⟨#[]⟩, .int .i64 0, .int .i64 0, .int .i64 0, .int .i64 0, .int .i64 0]), 8, 80) := by kernel_rfl
/-- Acts in a row. -/
def actsV (ts : List ActR) : List Value := ts.flatMap actL
theorem actsV_snoc (ts : List ActR) (a : ActR) : actsV (ts ++ [a]) = actsV ts ++ [.int .i64 a.k, .string a.nm, .string a.pr, .int .i64 a.lo, .int .i64 a.hi, .int .i64 a.tm, .int .i64 a.un, .int .i64 a.n] := by unfold actsV; simp [actL]
theorem actsV_at {ts : List ActR} {i : Nat} {a : ActR} (h : ts[i]? = some a) {j : Nat} (hj : j < 8) : (actsV ts)[i * 8 + j]? = (actL a)[j]? := flatMap8_get actL (fun _ => rfl) ts i j a h hj
/-- An act of a row, in memory. -/
theorem acts_cells {w : World} {g : Nat} {t : TypeId} {cur : Array Value} {ts : List ActR} (hb : Blk w g t cur) (hc : ∀ (i : Nat) (v : Value), (actsV ts)[i]? = some v → cur[i]? = some v) {i : Nat} {a : ActR} (h : ts[i]? = some a) :
    w.cell? ⟨g, i * 8, none⟩ = some (.int .i64 a.k) ∧ w.cell? ⟨g, i * 8 + 1, none⟩ = some (.string a.nm) ∧ w.cell? ⟨g, i * 8 + 2, none⟩ = some (.string a.pr) ∧ w.cell? ⟨g, i * 8 + 3, none⟩ = some (.int .i64 a.lo) ∧ w.cell? ⟨g, i * 8 + 4, none⟩ = some (.int .i64 a.hi) ∧ w.cell? ⟨g, i * 8 + 5, none⟩ = some (.int .i64 a.tm) ∧ w.cell? ⟨g, i * 8 + 6, none⟩ = some (.int .i64 a.un) ∧ w.cell? ⟨g, i * 8 + 7, none⟩ = some (.int .i64 a.n) :=
  ⟨hb.c _ (hc _ _ (actsV_at h (j := 0) (by omega))), hb.c _ (hc _ _ (actsV_at h (j := 1) (by omega))), hb.c _ (hc _ _ (actsV_at h (j := 2) (by omega))), hb.c _ (hc _ _ (actsV_at h (j := 3) (by omega))), hb.c _ (hc _ _ (actsV_at h (j := 4) (by omega))), hb.c _ (hc _ _ (actsV_at h (j := 5) (by omega))), hb.c _ (hc _ _ (actsV_at h (j := 6) (by omega))), hb.c _ (hc _ _ (actsV_at h (j := 7) (by omega)))⟩
theorem row_acts {w : World} {base n c : Nat} {e : TypeId} {A : Option Addr} {ts : List ActR} {i : Nat} {a : ActR} (h : w.ownsRow base e 8 (.slice A n c) n (actsV ts)) (hn : ts.length = n) (hi : ts[i]? = some a) :
    ∃ g, A = some ⟨g, 0, none⟩ ∧ g < w.heap.size ∧ w.cell? ⟨g, i * 8, none⟩ = some (.int .i64 a.k) ∧ w.cell? ⟨g, i * 8 + 1, none⟩ = some (.string a.nm) ∧ w.cell? ⟨g, i * 8 + 2, none⟩ = some (.string a.pr) ∧ w.cell? ⟨g, i * 8 + 3, none⟩ = some (.int .i64 a.lo) ∧ w.cell? ⟨g, i * 8 + 4, none⟩ = some (.int .i64 a.hi) ∧ w.cell? ⟨g, i * 8 + 5, none⟩ = some (.int .i64 a.tm) ∧ w.cell? ⟨g, i * 8 + 6, none⟩ = some (.int .i64 a.un) ∧ w.cell? ⟨g, i * 8 + 7, none⟩ = some (.int .i64 a.n) := by
  have hl := (List.getElem?_eq_some_iff.1 hi).1
  obtain ⟨g, cur, hA, -, hb, -, -, hc⟩ := row_blk h (by omega)
  exact ⟨g, hA, hb.lt, acts_cells hb hc hi⟩
/-- The chain of a test, in memory of its own. -/
theorem chain_call {B : List Ent} {p : Nat} {L : Lay} {C : List ByteArray} {y : Nat} {w : World} (hb : BookR B p L w) (h : chainA B (y : Int) = (C, 0)) (hC : 0 < C.length) :
    Calls Try.prog 40 #[ptrB p, .int .i64 y] w fun e w' => ∃ g c cur, e = .returned (.tuple #[.slice (some ⟨g, 0, none⟩) C.length c, .int .i64 0]) ∧ Below w.heap.size w w' ∧ Blk w' g 9 cur ∧ w.heap.size ≤ g ∧ ∀ (i : Nat) (m : ByteArray), C[i]? = some m → cur[i]? = some (.string m) := by
  have hct := Chain_any B p L y w hb
  rw [h] at hct
  refine hct.mono ?_
  rintro e w4 ⟨v1, rfl, hb1, ho1⟩
  obtain ⟨A1, c1, rfl⟩ := own_shape2 ho1
  obtain ⟨g, cur, hA, -, hg, -, -, hc⟩ := row_blk ho1 hC
  cases hA
  exact ⟨g, c1, cur, rfl, hb1, hg, (ho1.lt g rfl).1, fun i m h => hc i _ (by unfold strV; rw [List.getElem?_map, h]; rfl)⟩
end Go.Proofs.Ytiggefmckomilaa
namespace Go.Proofs.Ytiggefmckomilaa
open Go Go.RowKit

def defA (ac : Nat → ActR) : Nat → List ActR
  | 0 => []
  | k + 1 => defA ac k ++ if (ac k).k % 8 = 1 ∧ enterB (ordB ac k) (ac k) = true then [ac k] else []
def stdOf (a : ActR) : Std := ⟨a.nm, a.pr, a.lo, a.hi, a.tm, a.un, a.n⟩
theorem ent1 {a : ActR} (h : a.k % 8 = 1) : entA a = some (.define (stdOf a)) := by unfold entA; rw [h]; rfl
theorem def_mem {ac : Nat → ActR} : ∀ {k : Nat} {a : ActR}, a ∈ defA ac k → ∃ i, a = ac i
  | 0, a, h => by cases h
  | k + 1, a, h => by
    rw [defA] at h
    rcases List.mem_append.1 h with h | h
    · exact def_mem h
    · split at h
      · exact ⟨k, List.mem_singleton.1 h⟩
      · cases h
theorem def_len (ac : Nat → ActR) : ∀ k, (defA ac k).length ≤ k
  | 0 => Nat.le_refl _
  | k + 1 => by
    have := def_len ac k
    rw [defA, List.length_append]
    split <;> simp <;> omega
theorem def_std {ac : Nat → ActR} : ∀ {k : Nat}, GoodB (ordB ac k) → ∀ a ∈ defA ac k, stdT (ordB ac k) a.nm = some (stdOf a)
  | 0, _, a, h => by cases h
  | k + 1, hg, a, h => by
    have hB : ordB ac (k + 1) = if (ac k).k % 8 ≤ 2 then enterL (ordB ac k) (ac k) else ordB ac k := rfl
    have hgk : GoodB (ordB ac k) := by
      rw [hB] at hg
      split at hg
      · cases hb : enterB (ordB ac k) (ac k) with
        | false => rw [enterL_false hb] at hg; exact hg
        | true => obtain ⟨x, -, -, e⟩ := enterL_true hb; rw [e] at hg; exact hg.2
      · exact hg
    rw [defA] at h
    rcases List.mem_append.1 h with h | h
    · have ih := def_std hgk a h
      rw [hB] at hg ⊢
      split
      · rename_i h2
        rw [if_pos h2] at hg
        cases hb : enterB (ordB ac k) (ac k) with
        | false => rw [enterL_false hb]; exact ih
        | true =>
          obtain ⟨x, -, -, e⟩ := enterL_true hb
          rw [e] at hg ⊢
          rw [stdT_cons (fresh_of hg ih)]
          exact ih
      · exact ih
    · split at h
      · rename_i hc
        obtain ⟨h1, hb⟩ := hc
        rw [List.mem_singleton.1 h, hB, if_pos (by omega)]
        obtain ⟨x, e1, -, e3⟩ := enterL_true hb
        rw [ent1 h1] at e1
        rw [e3, ← Option.some.inj e1, stdT, if_pos (show (stdOf (ac k)).name = (ac k).nm from rfl)]
      · cases h
/-- A chain, from a place on. -/
theorem chainDrop {l : List Ent} {n : ByteArray} (hg : GoodB l) (hn : ∃ s, stdT l n = some s) : ∀ j m, (chainT l n)[j]? = some m → (chainT l n).drop j = chainT l m ∧ ∃ s, stdT l m = some s
  | 0, m, h => by
    obtain ⟨s, hs⟩ := hn
    rw [chain_step hg hs] at h
    have e : n = m := by simpa using h
    subst e
    exact ⟨rfl, s, hs⟩
  | j + 1, m, h => by
    have hlt := (List.getElem?_eq_some_iff.1 h).1
    obtain ⟨e, s, hs⟩ := chainDrop hg hn j ((chainT l n)[j]) (List.getElem?_eq_getElem (by omega))
    generalize (chainT l n)[j] = p at e hs
    have e2 : (chainT l n).drop (j + 1) = (if s.par = ByteArray.empty then [] else chainT l s.par) := by
      have : (chainT l n).drop (j + 1) = ((chainT l n).drop j).drop 1 := by rw [List.drop_drop]
      rw [this, e, chain_step hg hs]
      rfl
    have h0 : ((chainT l n).drop (j + 1))[0]? = some m := by rw [List.getElem?_drop]; exact h
    by_cases hp : s.par = ByteArray.empty
    · rw [e2, if_pos hp] at h0; cases h0
    · rw [if_neg hp] at e2
      obtain ⟨q, hq, -⟩ := par_of hg hs hp
      rw [e2, chain_step hg hq] at h0
      have e3 : s.par = m := by simpa using h0
      rw [e2, e3]
      exact ⟨rfl, q, e3 ▸ hq⟩
theorem chainNext {l : List Ent} {n : ByteArray} (hg : GoodB l) (hn : ∃ s, stdT l n = some s) {j : Nat} {s : Std} (h : (chainT l n)[j]? = some s.name) (hs : stdT l s.name = some s) :
    (s.par = ByteArray.empty → j + 1 = (chainT l n).length) ∧ (s.par ≠ ByteArray.empty → (chainT l n)[j + 1]? = some s.par) := by
  obtain ⟨e, -⟩ := chainDrop hg hn j _ h
  have hlt := (List.getElem?_eq_some_iff.1 h).1
  rw [chain_step hg hs] at e
  constructor
  · intro hp
    rw [if_pos hp] at e
    have := congrArg List.length e
    rw [List.length_drop, List.length_singleton] at this
    omega
  · intro hp
    rw [if_neg hp] at e
    obtain ⟨q, hq, -⟩ := par_of hg hs hp
    rw [chain_step hg hq] at e
    have : ((chainT l n).drop j)[1]? = some s.par := by rw [e]; rfl
    rw [List.getElem?_drop] at this
    exact this
theorem memB_take {q : List ByteArray} {j : Nat} {x m : ByteArray} (h : q[j]? = some m) : memB (q.take (j + 1)) x = (memB (q.take j) x || decide (m = x)) := by
  obtain ⟨hj, e⟩ := List.getElem?_eq_some_iff.1 h
  rw [List.take_succ_eq_append_getElem hj]
  unfold memB
  rw [List.any_append, e]
  simp
/-- The tests that depend on a standard: the numbers grow. -/
theorem depT_sorted (l : List Ent) (q : List ByteArray) (k : Nat) : (depT l q k).Pairwise (· < ·) := by
  unfold depT
  exact List.Pairwise.filter _ List.pairwise_lt_range
theorem depT_next {l : List Ent} {q : List ByteArray} {k j a b : Nat} (h1 : (depT l q k)[j]? = some a) (h2 : (depT l q k)[j + 1]? = some b) : a < b := by
  obtain ⟨hj, e1⟩ := List.getElem?_eq_some_iff.1 h1
  obtain ⟨hj2, e2⟩ := List.getElem?_eq_some_iff.1 h2
  have := List.pairwise_iff_getElem.1 (depT_sorted l q k) j (j + 1) hj hj2 (by omega)
  omega
def metN (T : List Nat) (i j : Nat) : Bool := (T.take j).any fun z => decide (z = i)
theorem metN_succ {T : List Nat} {i j z : Nat} (h : T[j]? = some z) : metN T i (j + 1) = (metN T i j || decide (z = i)) := by
  obtain ⟨hj, e⟩ := List.getElem?_eq_some_iff.1 h
  unfold metN
  rw [List.take_succ_eq_append_getElem hj, List.any_append, e]
  simp
theorem met_in {l : List Ent} {x : ByteArray} {i : Nat} {t : Tst} {g : Int × Int} (hg : GoodB l) (ht : (testInfo l)[i]? = some (t, g)) : metN (depT l (depN l x (stdsT l).length) (testsT l).length) i (depT l (depN l x (stdsT l).length) (testsT l).length).length = memB (chainT l t.std) x := by
  have hi := (List.getElem?_eq_some_iff.1 ht).1
  rw [testInfo_length] at hi
  have hd : memB (depN l x (stdsT l).length) t.std = memB (chainT l t.std) x := depN_mem
  rw [← hd]
  unfold metN
  rw [List.take_length, Bool.eq_iff_iff, List.any_eq_true]
  unfold depT
  constructor
  · rintro ⟨z, hz, e⟩
    rw [decide_eq_true_eq] at e
    subst e
    have := (List.mem_filter.1 hz).2
    unfold inT at this
    rw [ht] at this
    exact this
  · intro h
    refine ⟨i, List.mem_filter.2 ⟨List.mem_range.2 hi, ?_⟩, by simp⟩
    unfold inT
    rw [ht]
    exact h
/-- Whether a test of the radar is left. -/
def leftB (B : List Ent) (ts : List ActR) (nm x : ByteArray) (j : Nat) : Bool := (ts.take j).any fun t => decide (t.nm = nm) && !memB (chainT B t.pr) x
theorem leftB_succ {B : List Ent} {ts : List ActR} {nm x : ByteArray} {j : Nat} {t : ActR} (h : ts[j]? = some t) : leftB B ts nm x (j + 1) = (leftB B ts nm x j || (decide (t.nm = nm) && !memB (chainT B t.pr) x)) := by
  obtain ⟨hj, e⟩ := List.getElem?_eq_some_iff.1 h
  unfold leftB
  rw [List.take_succ_eq_append_getElem hj, List.any_append, e]
  simp
theorem gain_empty {B : List Ent} {ts : List ActR} {nm x : ByteArray} (hg : GoodB B) (hw : ∀ n, wdT B n = false) (ht : testsT B = (ts.map tstOf).reverse) (hd : ∃ d, driftT B nm = some d) : decide ((gainE (.turn x true :: B) nm 0).2.2 = 18) = !leftB B ts nm x ts.length := by
  obtain ⟨d, hd⟩ := hd
  have hE : gainE (.turn x true :: B) nm 0 = gainQ (selN (testInfo B) nm (voidT (.turn x true :: B)) d 0 (testsT B).length) := by
    unfold gainE
    rw [show driftT (.turn x true :: B) nm = driftT B nm from rfl, hd]
    rfl
  have hv : ∀ m, voidT (.turn x true :: B) m = memB (chainT B m) x := fun m => by
    cases h : depG B x m with
    | true => rw [void_in h]; exact h.symm
    | false => rw [void_out h, void_none hw]; exact h.symm
  have hq : ((selN (testInfo B) nm (voidT (.turn x true :: B)) d 0 (testsT B).length).length = 0) ↔ leftB B ts nm x ts.length = false := by
    have e := sel_map (testInfo B) nm (voidT (.turn x true :: B)) d 0 (testsT B).length
    have e2 := congrArg List.length e
    rw [List.length_map, List.length_map, List.take_of_length_le (by rw [testInfo_length]; exact Nat.le_refl _)] at e2
    rw [e2, info_map hg, ht, List.reverse_reverse]
    unfold leftB
    rw [List.take_length, List.length_eq_zero_iff, List.filter_eq_nil_iff, List.any_eq_false]
    constructor
    · intro h t htm
      have := h (tstOf t, gainT B (tstOf t)) (by rw [List.map_map]; exact List.mem_map.2 ⟨t, htm, rfl⟩)
      rw [hv] at this
      exact this
    · intro h y hy
      rw [List.map_map] at hy
      obtain ⟨t, htm, rfl⟩ := List.mem_map.1 hy
      have := h t htm
      simp only [Function.comp]
      rw [hv]
      exact this
  rw [hE]
  cases hl : leftB B ts nm x ts.length with
  | false =>
    rw [gainQ_empty (hq.2 hl)]
    rfl
  | true =>
    have hne : (selN (testInfo B) nm (voidT (.turn x true :: B)) d 0 (testsT B).length).length ≠ 0 := fun h => by rw [hq.1 h] at hl; cases hl
    unfold gainQ
    rw [if_neg hne]
    split <;> rfl
theorem chain_test {B : List Ent} {ts : List ActR} (hg : GoodB B) (ht : testsT B = (ts.map tstOf).reverse) {i : Nat} {a : ActR} (h : ts[i]? = some a) :
    chainA B (i : Int) = (chainT B a.pr, 0) ∧ (testInfo B)[i]? = some (tstOf a, gainT B (tstOf a)) ∧ TestIn B (tstOf a) := by
  have hi : (testInfo B)[i]? = some (tstOf a, gainT B (tstOf a)) := by
    rw [info_map hg, ht, List.reverse_reverse, List.map_map, List.getElem?_map, h]; rfl
  refine ⟨?_, hi, good_tin hg _ (by rw [ht, List.mem_reverse]; exact List.mem_map.2 ⟨a, List.mem_of_getElem? h, rfl⟩)⟩
  unfold chainA
  rw [show ((i : Nat) : Int).toNat = i from rfl, hi]
  simp only
  rw [if_pos (by omega)]
  rfl
theorem chainLen {l : List Ent} : ∀ {n : ByteArray}, (chainT l n).length ≤ l.length := fun {n} => by
  induction l generalizing n with
  | nil => exact Nat.le_refl _
  | cons e l ih =>
    cases e with
    | define s =>
      rw [chainT]
      have h1 := ih (n := n)
      have h2 := ih (n := s.par)
      split
      · split
        · simp only [List.length_cons, List.length_nil]; omega
        · simp only [List.length_cons]; omega
      · simp only [List.length_cons]; omega
    | _ => exact Nat.le_succ_of_le (ih (n := n))
end Go.Proofs.Ytiggefmckomilaa
namespace Go.Proofs.Ytiggefmckomilaa
open Go Go.RowKit

/-- The loops of a code, in order. -/
def loopsOf : Code → List Code
  | .loop c => .loop c :: loopsOf c
  | .seq a b => loopsOf a ++ loopsOf b
  | .block _ c => loopsOf c
  | .scope c => loopsOf c
  | .cond _ a b => loopsOf a ++ loopsOf b
  | _ => []
end Go.Proofs.Ytiggefmckomilaa
namespace Go.Proofs.Ytiggefmckomilaa
open Go Go.RowKit

set_option maxRecDepth 1000000 in
noncomputable def chl1C : Code := ((loopsOf ((Try.f9.body).getD .skip))[0]?).getD .skip
set_option maxHeartbeats 8000000 in
set_option maxRecDepth 1000000 in
theorem chl1 {kc1 kc2 kc3 kc4 ku9 kc10 kc11 kc12 kc13 kc14 kc15 kc16 kc17 kc18 kc19 kc20 kc21 kc22 kc23 kc24 kc25 kc26 kc27 kc28 kc29 kc30 kc31 kc32 kc33 kc34 ku35 ku36 ku37 ku38 ku39 ku40 ku41 ku42 ku43 ku44 ku45 ku46 ku47 ku48 ku49 ku50 ku51 ku52 ku53 ku54 ku55 ku56 ku57 ku58 ku59 ku60 ku61 ku62 ku63 ku64 ku65 ku66 ku67 ku68 ku69 ku70 ku71 ku72 ku73 ku74 ku75 ku76 ku77 kc78 kc79 kc80 kc81 kc82 kc83 kc84 kc85 kc86 kc87 kc88 kc89 kc90 kc91 kc92 kc93 kc94 kc95 kc96 kc97 kc98 kc99 kc100 kc101 kc102 kc103 kc104 kc105 kc106 kc107 kc108 kc109 kc110 kc111 kc112 kc113 kc114 kc115 kc116 kc117 kc118 kc119 kc120 kc121 kc122 kc123 kc124 kc125 kc126 kc127 kc128 kc129 kc130 kc131 kc132 kc133 kc134 kc135 kc136 kc137 kc138 kc139 kc140 kc141 kc142 kc143 kc144 kc145 kc146 kc147 kc148 kc149 kc150 kc151 kc152 kc153 kc154 kc155 kc156 kc157 kc158 kc159 kc160 kc161 kc162 kc163 kc164 kc165 kc166 kc167 kc168 kc169 kc170 kc171 kc172 kc173 kc174 kc175 kc176 kc177 kc178 kc179 kc180 kc181 kc182 kc183 kc184 kc185 kc186 kc187 kc188 kc189 kc190 kc191 kc192 kc193 kc194 kc195 kc196 kc197 kc198 kc199 kc200 kc201 kc202 kc203 kc204 kc205 kc206 kc207 kc208 kc209 kc210 kc211 kc212 kc213 kc214 kc215 kc216 kc217 kc218 kc219 kc220 kc221 kc222 kc223 kc224 kc225 kc226 kc227 kc228 kc229 kc230 kc231 kc232 kc233 kc234 kc235 kc236 kc237 kc238 kc239 kc240 kc241 kc242 kc243 kc244 kc245 kc246 kc247 kc248 kc249 kc250 kc251 kc252 kc253 kc254 kc255 kc256 kc257 kc258 kc259 kc260 kc261 kc262 kc263 kc264 kc265 kc266 kc267 kc268 kc269 kc270 kc271 kc272 kc273 kc274 kc275 kc276 kc277 kc278 kc279 kc280 kc281 kc282 : Value} (ac : Nat → ActR) (A : Option Addr) (n c p : Nat) (L : Lay) (w' : World) (hrow : Rows_ w' w'.heap.size A n 8 (fun i => actL (ac i))) (hok : ∀ i, ActOk (ac i)) (hn40 : n ≤ 40) {Q : Exit → Act → World → Prop} {wr : World} (hM : Mem w' [.row w'.heap.size 59 8 (.slice none 0 0) 0 [], .row w'.heap.size 59 8 (.slice none 0 0) 0 [], .book [] p L] wr)
    (hexit : ∀ ⦃kv9 kv35 kv36 kv37 kv38 kv39 kv40 kv41 kv42 kv43 kv44 kv45 kv46 kv47 kv48 kv49 kv50 kv51 kv52 kv53 kv54 kv55 kv56 kv57 kv58 kv59 kv60 kv61 kv62 kv63 kv64 kv65 kv66 kv67 kv68 kv69 kv70 kv71 kv72 kv73 kv74 kv75 kv76 kv77 : Value⦄ ⦃sv tv : Value⦄ ⦃L : Lay⦄ ⦃w2 : World⦄, Mem w' [.row w'.heap.size 59 8 tv (tstA ac n).length (actsV (tstA ac n)), .row w'.heap.size 59 8 sv (defA ac n).length (actsV (defA ac n)), .book (ordB ac n) p L] w2 → Q (.exit 0) ⟨List.toArray (.slice A n c :: kc1 :: kc2 :: kc3 :: kc4 :: .pointer (some ⟨p, 0, none⟩) :: sv :: tv :: .int .i64 (n : Int) :: kv9 :: kc10 :: kc11 :: kc12 :: kc13 :: kc14 :: kc15 :: kc16 :: kc17 :: kc18 :: kc19 :: kc20 :: kc21 :: kc22 :: kc23 :: kc24 :: kc25 :: kc26 :: kc27 :: kc28 :: kc29 :: kc30 :: kc31 :: kc32 :: kc33 :: kc34 :: kv35 :: kv36 :: kv37 :: kv38 :: kv39 :: kv40 :: kv41 :: kv42 :: kv43 :: kv44 :: kv45 :: kv46 :: kv47 :: kv48 :: kv49 :: kv50 :: kv51 :: kv52 :: kv53 :: kv54 :: kv55 :: kv56 :: kv57 :: kv58 :: kv59 :: kv60 :: kv61 :: kv62 :: kv63 :: kv64 :: kv65 :: kv66 :: kv67 :: kv68 :: kv69 :: kv70 :: kv71 :: kv72 :: kv73 :: kv74 :: kv75 :: kv76 :: kv77 :: kc78 :: kc79 :: kc80 :: kc81 :: kc82 :: kc83 :: kc84 :: kc85 :: kc86 :: kc87 :: kc88 :: kc89 :: kc90 :: kc91 :: kc92 :: kc93 :: kc94 :: kc95 :: kc96 :: kc97 :: kc98 :: kc99 :: kc100 :: kc101 :: kc102 :: kc103 :: kc104 :: kc105 :: kc106 :: kc107 :: kc108 :: kc109 :: kc110 :: kc111 :: kc112 :: kc113 :: kc114 :: kc115 :: kc116 :: kc117 :: kc118 :: kc119 :: kc120 :: kc121 :: kc122 :: kc123 :: kc124 :: kc125 :: kc126 :: kc127 :: kc128 :: kc129 :: kc130 :: kc131 :: kc132 :: kc133 :: kc134 :: kc135 :: kc136 :: kc137 :: kc138 :: kc139 :: kc140 :: kc141 :: kc142 :: kc143 :: kc144 :: kc145 :: kc146 :: kc147 :: kc148 :: kc149 :: kc150 :: kc151 :: kc152 :: kc153 :: kc154 :: kc155 :: kc156 :: kc157 :: kc158 :: kc159 :: kc160 :: kc161 :: kc162 :: kc163 :: kc164 :: kc165 :: kc166 :: kc167 :: kc168 :: kc169 :: kc170 :: kc171 :: kc172 :: kc173 :: kc174 :: kc175 :: kc176 :: kc177 :: kc178 :: kc179 :: kc180 :: kc181 :: kc182 :: kc183 :: kc184 :: kc185 :: kc186 :: kc187 :: kc188 :: kc189 :: kc190 :: kc191 :: kc192 :: kc193 :: kc194 :: kc195 :: kc196 :: kc197 :: kc198 :: kc199 :: kc200 :: kc201 :: kc202 :: kc203 :: kc204 :: kc205 :: kc206 :: kc207 :: kc208 :: kc209 :: kc210 :: kc211 :: kc212 :: kc213 :: kc214 :: kc215 :: kc216 :: kc217 :: kc218 :: kc219 :: kc220 :: kc221 :: kc222 :: kc223 :: kc224 :: kc225 :: kc226 :: kc227 :: kc228 :: kc229 :: kc230 :: kc231 :: kc232 :: kc233 :: kc234 :: kc235 :: kc236 :: kc237 :: kc238 :: kc239 :: kc240 :: kc241 :: kc242 :: kc243 :: kc244 :: kc245 :: kc246 :: kc247 :: kc248 :: kc249 :: kc250 :: kc251 :: kc252 :: kc253 :: kc254 :: kc255 :: kc256 :: kc257 :: kc258 :: kc259 :: kc260 :: kc261 :: kc262 :: kc263 :: kc264 :: kc265 :: kc266 :: kc267 :: kc268 :: kc269 :: kc270 :: kc271 :: kc272 :: kc273 :: kc274 :: kc275 :: kc276 :: kc277 :: kc278 :: kc279 :: kc280 :: kc281 :: kc282 :: []), []⟩ w2) :
    Code.wp Try.prog chl1C Q ⟨List.toArray (.slice A n c :: kc1 :: kc2 :: kc3 :: kc4 :: .pointer (some ⟨p, 0, none⟩) :: .slice none 0 0 :: .slice none 0 0 :: .int .i64 0 :: ku9 :: kc10 :: kc11 :: kc12 :: kc13 :: kc14 :: kc15 :: kc16 :: kc17 :: kc18 :: kc19 :: kc20 :: kc21 :: kc22 :: kc23 :: kc24 :: kc25 :: kc26 :: kc27 :: kc28 :: kc29 :: kc30 :: kc31 :: kc32 :: kc33 :: kc34 :: ku35 :: ku36 :: ku37 :: ku38 :: ku39 :: ku40 :: ku41 :: ku42 :: ku43 :: ku44 :: ku45 :: ku46 :: ku47 :: ku48 :: ku49 :: ku50 :: ku51 :: ku52 :: ku53 :: ku54 :: ku55 :: ku56 :: ku57 :: ku58 :: ku59 :: ku60 :: ku61 :: ku62 :: ku63 :: ku64 :: ku65 :: ku66 :: ku67 :: ku68 :: ku69 :: ku70 :: ku71 :: ku72 :: ku73 :: ku74 :: ku75 :: ku76 :: ku77 :: kc78 :: kc79 :: kc80 :: kc81 :: kc82 :: kc83 :: kc84 :: kc85 :: kc86 :: kc87 :: kc88 :: kc89 :: kc90 :: kc91 :: kc92 :: kc93 :: kc94 :: kc95 :: kc96 :: kc97 :: kc98 :: kc99 :: kc100 :: kc101 :: kc102 :: kc103 :: kc104 :: kc105 :: kc106 :: kc107 :: kc108 :: kc109 :: kc110 :: kc111 :: kc112 :: kc113 :: kc114 :: kc115 :: kc116 :: kc117 :: kc118 :: kc119 :: kc120 :: kc121 :: kc122 :: kc123 :: kc124 :: kc125 :: kc126 :: kc127 :: kc128 :: kc129 :: kc130 :: kc131 :: kc132 :: kc133 :: kc134 :: kc135 :: kc136 :: kc137 :: kc138 :: kc139 :: kc140 :: kc141 :: kc142 :: kc143 :: kc144 :: kc145 :: kc146 :: kc147 :: kc148 :: kc149 :: kc150 :: kc151 :: kc152 :: kc153 :: kc154 :: kc155 :: kc156 :: kc157 :: kc158 :: kc159 :: kc160 :: kc161 :: kc162 :: kc163 :: kc164 :: kc165 :: kc166 :: kc167 :: kc168 :: kc169 :: kc170 :: kc171 :: kc172 :: kc173 :: kc174 :: kc175 :: kc176 :: kc177 :: kc178 :: kc179 :: kc180 :: kc181 :: kc182 :: kc183 :: kc184 :: kc185 :: kc186 :: kc187 :: kc188 :: kc189 :: kc190 :: kc191 :: kc192 :: kc193 :: kc194 :: kc195 :: kc196 :: kc197 :: kc198 :: kc199 :: kc200 :: kc201 :: kc202 :: kc203 :: kc204 :: kc205 :: kc206 :: kc207 :: kc208 :: kc209 :: kc210 :: kc211 :: kc212 :: kc213 :: kc214 :: kc215 :: kc216 :: kc217 :: kc218 :: kc219 :: kc220 :: kc221 :: kc222 :: kc223 :: kc224 :: kc225 :: kc226 :: kc227 :: kc228 :: kc229 :: kc230 :: kc231 :: kc232 :: kc233 :: kc234 :: kc235 :: kc236 :: kc237 :: kc238 :: kc239 :: kc240 :: kc241 :: kc242 :: kc243 :: kc244 :: kc245 :: kc246 :: kc247 :: kc248 :: kc249 :: kc250 :: kc251 :: kc252 :: kc253 :: kc254 :: kc255 :: kc256 :: kc257 :: kc258 :: kc259 :: kc260 :: kc261 :: kc262 :: kc263 :: kc264 :: kc265 :: kc266 :: kc267 :: kc268 :: kc269 :: kc270 :: kc271 :: kc272 :: kc273 :: kc274 :: kc275 :: kc276 :: kc277 :: kc278 :: kc279 :: kc280 :: kc281 :: kc282 :: []), []⟩ wr := by
  have HX := hide hexit
  clear hexit
  unfold chl1C
  conv => arg 2; whnf
  have HM := hide hM
  obtain ⟨i0, hii, hz0, hz1, hz2⟩ := info_parts actInfo
  have Hi := hide hii
  have Hz0 := hide hz0
  have Hz1 := hide hz1
  have Hz2 := hide hz2
  have Hrow := hide hrow
  have Hok := hide hok
  clear hii hz0 hz1 hz2 hrow hok
  clear hM
  go_loopw [6, 7, 8] (fun sv tv i wr => ∃ (k : Nat) (L : Lay), k ≤ n ∧ i = .int .i64 k ∧ Mem w' [.row w'.heap.size 59 8 tv (tstA ac k).length (actsV (tstA ac k)), .row w'.heap.size 59 8 sv (defA ac k).length (actsV (defA ac k)), .book (ordB ac k) p L] wr) (fun _ _ i _ => n - (intOf i).toNat)
  case atStart => exact ⟨0, L, Nat.zero_le _, rfl, HM.out⟩
  case round =>
    obtain ⟨k, L1, hkn, rfl, hM⟩ := hrel
    clear HM
    have HM := hide hM
    clear hM
    by_cases hk : k < n
    · have hk' : (k : Int) < n := by omega
      obtain ⟨At, ct, rfl⟩ := own_shape2 (Mem.row_ HM.out 0 rfl)
      obtain ⟨As, cs, rfl⟩ := own_shape2 (Mem.row_ HM.out 1 rfl)
      have htl := (ordI ac k (by omega)).tlen
      have hdl := def_len ac k
      have eB : ordB ac (k + 1) = if (ac k).k % 8 ≤ 2 then enterL (ordB ac k) (ac k) else ordB ac k := rfl
      have eO : defA ac (k + 1) = defA ac k ++ if (ac k).k % 8 = 1 ∧ enterB (ordB ac k) (ac k) = true then [ac k] else [] := rfl
      have eT : tstA ac (k + 1) = tstA ac k ++ if (ac k).k % 8 = 2 ∧ enterB (ordB ac k) (ac k) = true then [ac k] else [] := rfl
      have hkk := (Hok.out k).k0
      have hkk2 := (Hok.out k).k1
      obtain ⟨b, off, hA, hltb, hc⟩ := Hrow.out (by omega)
      have q0 := hc k hk 0 (.int .i64 (ac k).k) rfl
      have q1 := hc k hk 1 (.string (ac k).nm) rfl
      have q2 := hc k hk 2 (.string (ac k).pr) rfl
      have q3 := hc k hk 3 (.int .i64 (ac k).lo) rfl
      have q4 := hc k hk 4 (.int .i64 (ac k).hi) rfl
      have q5 := hc k hk 5 (.int .i64 (ac k).tm) rfl
      have q6 := hc k hk 6 (.int .i64 (ac k).un) rfl
      have q7 := hc k hk 7 (.int .i64 (ac k).n) rfl
      rw [Nat.add_zero] at q0
      have P := hide (And.intro q0 (And.intro q1 (And.intro q2 (And.intro q3 (And.intro q4 (And.intro q5 (And.intro q6 q7)))))))
      clear hc q0 q1 q2 q3 q4 q5 q6 q7
      subst hA
      obtain ⟨qq, hq, hq1, hq2, hr⟩ := kind_mod (k := (ac k).k)
      obtain ⟨r, hr2⟩ : ∃ r, (ac k).k % 8 = r := ⟨_, rfl⟩
      rw [hr2] at hr eB eO eT
      have hrb : 0 ≤ r ∧ r ≤ 7 := by omega
      clear hr2
      have hen0 := enter_any (ordB ac k) p L1 (ac k) wr (Mem.book_ HM.out 2 rfl) (Hok.out k)
      obtain ⟨eb, heb⟩ : ∃ eb, enterB (ordB ac k) (ac k) = eb := ⟨_, rfl⟩
      rw [heb] at hen0 eO eT
      clear heb
      have EB := hide eB
      have EO := hide eO
      have ET := hide eT
      clear eB eO eT
      obtain ⟨q0, q1, q2, q3, q4, q5, q6, q7⟩ := P.out
      rw [← HM.out.below.cell hltb] at q0 q1 q2 q3 q4 q5 q6 q7
      have ltq : b < wr.heap.size := Nat.lt_of_lt_of_le hltb HM.out.size
      by_cases hr3 : 2 < r
      · clear hen0
        go_wp2_with fail
        clear q0 q1 q2 q3 q4 q5 q6 q7 ltq
        go_roundw
        case rel =>
          have eB := EB.out
          have eO := EO.out
          have eT := ET.out
          rw [if_neg (by omega)] at eB eO eT
          rw [List.append_nil] at eO eT
          exact ⟨k + 1, L1, hk, by go_num, by rw [eB, eO, eT]; exact HM.out⟩
        case measure => simp [intOf] <;> omega
      · have Hen := hide hen0
        clear hen0
        unfold actA actV ptrB at Hen
        go_wp2_with fail
        refine Hen.out.mono ?_
        rintro e w5 ⟨rfl, hp⟩
        obtain ⟨L2, hM2⟩ := HM.out.enterA 2 rfl hp
        have eB := EB.out
        rw [if_pos (by omega)] at eB
        rw [← eB] at hM2
        clear q0 q1 q2 q3 q4 q5 q6 q7 ltq
        clear hp HM Hen eB EB
        have HM := hide (hM2 : Mem w' [.row w'.heap.size 59 8 (.slice At (tstA ac k).length ct) (tstA ac k).length (actsV (tstA ac k)), .row w'.heap.size 59 8 (.slice As (defA ac k).length cs) (defA ac k).length (actsV (defA ac k)), .book (ordB ac (k + 1)) p L2] w5)
        clear hM2
        cases eb with
        | false =>
          go_wp2_with fail
          go_roundw
          case rel =>
            have eO := EO.out
            have eT := ET.out
            rw [if_neg (by simp), List.append_nil] at eO eT
            exact ⟨k + 1, L2, hk, by go_num, by rw [eO, eT]; exact HM.out⟩
          case measure => simp [intOf] <;> omega
        | true =>
          obtain ⟨q0, q1, q2, q3, q4, q5, q6, q7⟩ := P.out
          rw [← HM.out.below.cell hltb] at q0 q1 q2 q3 q4 q5 q6 q7
          have ltq : b < w5.heap.size := Nat.lt_of_lt_of_le hltb HM.out.size
          rcases (show r = 0 ∨ r = 1 ∨ r = 2 by omega) with e0 | e0 | e0
          · subst e0
            go_wp2_with fail
            go_roundw
            case rel =>
              have eO := EO.out
              have eT := ET.out
              rw [if_neg (by simp), List.append_nil] at eO eT
              exact ⟨k + 1, L2, hk, by go_num, by rw [eO, eT]; exact HM.out⟩
            case measure => simp [intOf] <;> omega
          · subst e0
            have hownM := Mem.row_ HM.out 1 rfl
            have hbaseM : w'.heap.size ≤ w5.heap.size := HM.out.size
            go_wp2_with (at_builtin; refine wpList_append_own_at _ rfl (.tmp 62) (.tmp 67) _ rfl w'.heap.size 59 i0 _ 8 80 Try.underlying56 Hi.out Hz0.out Hz1.out Hz2.out rfl (by decide) _ (defA ac k).length (actsV (defA ac k)) rfl (hownM.alloc _) ⟨w5.heap.size, 0, none⟩ 1 1 [.int .i64 (ac k).k, .string (ac k).nm, .string (ac k).pr, .int .i64 (ac k).lo, .int .i64 (ac k).hi, .int .i64 (ac k).tm, .int .i64 (ac k).un, .int .i64 (ac k).n] rfl rfl ?q1c1 (by intro u hu; simp only [List.mem_cons, List.not_mem_nil, or_false] at hu; rcases hu with rfl | rfl | rfl | rfl | rfl | rfl | rfl | rfl <;> rfl) ?q1c3 ?q1c4 ?q1c5 ?_)
            try case q1c1 => exact new_cellsQ w5 _ [.int .i64 (ac k).k, .string (ac k).nm, .string (ac k).pr, .int .i64 (ac k).lo, .int .i64 (ac k).hi, .int .i64 (ac k).tm, .int .i64 (ac k).un, .int .i64 (ac k).n]
            case q1c3 => unfold maxLen; omega
            case q1c4 => omega
            case q1c5 => simp; omega
            intro sv2 w6 hown2 hgr2 _ hat2
            have HMn := HM.out.grow 1 rfl _ hgr2 hown2 hat2
            replace HM := hide HMn
            clear HMn hown2 hgr2 hat2 hownM hbaseM
            clear q0 q1 q2 q3 q4 q5 q6 q7 ltq
            go_wp2_with fail
            go_roundw
            case rel =>
              have eO := EO.out
              have eT := ET.out
              rw [if_pos (by simp)] at eO
              rw [if_neg (by simp), List.append_nil] at eT
              refine ⟨k + 1, L2, hk, by go_num, ?_⟩
              rw [eT, eO, actsV_snoc, List.length_append]
              exact HM.out
            case measure => simp [intOf] <;> omega
          · subst e0
            have hownM := Mem.row_ HM.out 0 rfl
            have hbaseM : w'.heap.size ≤ w5.heap.size := HM.out.size
            go_wp2_with (at_builtin; refine wpList_append_own_at _ rfl (.tmp 71) (.tmp 76) _ rfl w'.heap.size 59 i0 _ 8 80 Try.underlying56 Hi.out Hz0.out Hz1.out Hz2.out rfl (by decide) _ (tstA ac k).length (actsV (tstA ac k)) rfl (hownM.alloc _) ⟨w5.heap.size, 0, none⟩ 1 1 [.int .i64 (ac k).k, .string (ac k).nm, .string (ac k).pr, .int .i64 (ac k).lo, .int .i64 (ac k).hi, .int .i64 (ac k).tm, .int .i64 (ac k).un, .int .i64 (ac k).n] rfl rfl ?q2c1 (by intro u hu; simp only [List.mem_cons, List.not_mem_nil, or_false] at hu; rcases hu with rfl | rfl | rfl | rfl | rfl | rfl | rfl | rfl <;> rfl) ?q2c3 ?q2c4 ?q2c5 ?_)
            try case q2c1 => exact new_cellsQ w5 _ [.int .i64 (ac k).k, .string (ac k).nm, .string (ac k).pr, .int .i64 (ac k).lo, .int .i64 (ac k).hi, .int .i64 (ac k).tm, .int .i64 (ac k).un, .int .i64 (ac k).n]
            case q2c3 => unfold maxLen; omega
            case q2c4 => omega
            case q2c5 => simp; omega
            intro tv2 w6 hown2 hgr2 _ hat2
            have HMn := HM.out.grow 0 rfl _ hgr2 hown2 hat2
            replace HM := hide HMn
            clear HMn hown2 hgr2 hat2 hownM hbaseM
            clear q0 q1 q2 q3 q4 q5 q6 q7 ltq
            go_wp2_with fail
            go_roundw
            case rel =>
              have eO := EO.out
              have eT := ET.out
              rw [if_pos (by simp)] at eT
              rw [if_neg (by simp), List.append_nil] at eO
              refine ⟨k + 1, L2, hk, by go_num, ?_⟩
              rw [eT, eO, actsV_snoc, List.length_append]
              exact HM.out
            case measure => simp [intOf] <;> omega
    · obtain rfl : k = n := by omega
      have hkk : ¬ ((k : Int) < k) := by omega
      obtain ⟨At, ct, rfl⟩ := own_shape2 (Mem.row_ HM.out 0 rfl)
      obtain ⟨As, cs, rfl⟩ := own_shape2 (Mem.row_ HM.out 1 rfl)
      go_wp2_with fail
      exact HX.out HM.out
end Go.Proofs.Ytiggefmckomilaa
namespace Go.Proofs.Ytiggefmckomilaa
open Go Go.RowKit

set_option maxRecDepth 1000000 in
noncomputable def chl4C : Code := ((loopsOf ((Try.f9.body).getD .skip))[3]?).getD .skip
set_option maxHeartbeats 8000000 in
set_option maxRecDepth 1000000 in
theorem chl4 {kc0 kc1 kc2 kc3 ku4 kc5 kc6 kc7 kc8 kc9 kc10 kc11 kc12 kc14 kc15 kc19 kc20 kc21 kc22 kc23 kc24 kc25 kc26 kc27 kc28 kc29 kc30 kc31 kc32 kc33 kc34 kc35 kc36 kc37 kc38 kc39 kc40 kc41 kc42 kc43 kc44 kc45 kc46 kc47 kc48 kc49 kc50 kc51 kc52 kc53 kc54 kc55 kc56 kc57 kc58 kc59 kc60 kc61 kc62 kc63 kc64 kc65 kc66 kc67 kc68 kc69 kc70 kc71 kc72 kc73 kc74 kc75 kc76 kc77 kc78 kc79 kc80 kc81 kc82 kc83 kc84 kc85 kc86 kc87 kc88 kc89 kc90 kc91 kc92 kc93 kc94 kc95 kc96 kc97 kc98 kc99 kc100 kc101 kc102 kc103 kc104 kc105 kc106 kc107 kc108 kc109 kc110 kc111 kc112 kc113 kc114 kc115 kc116 kc117 kc118 kc119 kc120 kc121 kc122 kc123 kc124 kc125 kc126 kc127 kc128 kc129 kc130 kc131 kc132 kc133 kc134 kc135 kc136 kc137 kc138 kc139 kc140 ku141 ku142 ku143 ku144 ku145 ku146 ku147 ku148 ku149 ku150 ku151 ku152 ku153 ku154 ku155 ku156 ku157 ku158 ku159 ku160 ku161 ku162 ku163 ku164 ku165 ku166 ku167 ku168 ku169 ku170 ku171 ku172 ku173 ku174 ku175 ku176 ku177 kc178 kc179 kc180 kc181 kc182 kc183 kc184 kc185 kc186 kc187 kc188 kc189 kc190 kc191 kc192 kc193 kc194 kc195 kc196 kc197 kc198 kc199 kc200 kc201 kc202 kc203 kc204 kc205 kc206 kc207 kc208 kc209 kc210 kc211 kc212 kc213 kc214 kc215 kc216 kc217 kc218 kc219 kc220 kc221 kc222 kc223 kc224 kc225 kc226 kc227 kc228 kc229 kc230 kc231 kc232 kc233 kc234 kc235 kc236 kc237 kc238 kc239 kc240 kc241 kc242 kc243 kc244 kc245 kc246 kc247 kc248 kc249 kc250 kc251 kc252 kc253 kc254 kc255 kc256 kc257 kc258 kc259 kc260 kc261 kc262 kc263 kc264 kc265 kc266 kc267 kc268 kc269 kc270 kc271 kc272 kc273 kc274 kc275 kc276 kc277 kc278 kc279 kc280 kc281 kc282 : Value} (C : List ByteArray) (s : ActR) (gA bC c1 : Nat) (curC : Array Value) (w' : World) (ts : List Th) (hcs : ∀ (i : Nat) (m : ByteArray), C[i]? = some m → curC[i]? = some (.string m)) (hcn : ∀ j, C[j]? = some s.nm → (s.pr = ByteArray.empty → j + 1 = C.length) ∧ (s.pr ≠ ByteArray.empty → C[j + 1]? = some s.pr)) (hcl : C.length ≤ 1000) {Q : Exit → Act → World → Prop} {wr : World} (hM : Mem w' (.blk gA 59 #[.int .i64 s.k, .string s.nm, .string s.pr, .int .i64 s.lo, .int .i64 s.hi, .int .i64 s.tm, .int .i64 s.un, .int .i64 s.n] :: .blk bC 9 curC :: ts) wr)
    (hexit : ∀ ⦃kv4 kv141 kv142 kv143 kv144 kv145 kv146 kv147 kv148 kv149 kv150 kv151 kv152 kv153 kv154 kv155 kv156 kv157 kv158 kv159 kv160 kv161 kv162 kv163 kv164 kv165 kv166 kv167 kv168 kv169 kv170 kv171 kv172 kv173 kv174 kv175 kv176 kv177 : Value⦄  ⦃w2 : World⦄, Mem w' (.blk gA 59 #[.int .i64 s.k, .string s.nm, .string s.pr, .int .i64 s.lo, .int .i64 s.hi, .int .i64 s.tm, .int .i64 s.un, .int .i64 s.n] :: .blk bC 9 curC :: ts) w2 → Q (.exit 6) ⟨List.toArray (kc0 :: kc1 :: kc2 :: kc3 :: kv4 :: kc5 :: kc6 :: kc7 :: kc8 :: kc9 :: kc10 :: kc11 :: kc12 :: .slice (some ⟨bC, 0, none⟩) C.length c1 :: kc14 :: kc15 :: .pointer (some ⟨gA, 0, none⟩) :: .bool (memB C s.nm) :: .int .i64 (C.length : Int) :: kc19 :: kc20 :: kc21 :: kc22 :: kc23 :: kc24 :: kc25 :: kc26 :: kc27 :: kc28 :: kc29 :: kc30 :: kc31 :: kc32 :: kc33 :: kc34 :: kc35 :: kc36 :: kc37 :: kc38 :: kc39 :: kc40 :: kc41 :: kc42 :: kc43 :: kc44 :: kc45 :: kc46 :: kc47 :: kc48 :: kc49 :: kc50 :: kc51 :: kc52 :: kc53 :: kc54 :: kc55 :: kc56 :: kc57 :: kc58 :: kc59 :: kc60 :: kc61 :: kc62 :: kc63 :: kc64 :: kc65 :: kc66 :: kc67 :: kc68 :: kc69 :: kc70 :: kc71 :: kc72 :: kc73 :: kc74 :: kc75 :: kc76 :: kc77 :: kc78 :: kc79 :: kc80 :: kc81 :: kc82 :: kc83 :: kc84 :: kc85 :: kc86 :: kc87 :: kc88 :: kc89 :: kc90 :: kc91 :: kc92 :: kc93 :: kc94 :: kc95 :: kc96 :: kc97 :: kc98 :: kc99 :: kc100 :: kc101 :: kc102 :: kc103 :: kc104 :: kc105 :: kc106 :: kc107 :: kc108 :: kc109 :: kc110 :: kc111 :: kc112 :: kc113 :: kc114 :: kc115 :: kc116 :: kc117 :: kc118 :: kc119 :: kc120 :: kc121 :: kc122 :: kc123 :: kc124 :: kc125 :: kc126 :: kc127 :: kc128 :: kc129 :: kc130 :: kc131 :: kc132 :: kc133 :: kc134 :: kc135 :: kc136 :: kc137 :: kc138 :: kc139 :: kc140 :: kv141 :: kv142 :: kv143 :: kv144 :: kv145 :: kv146 :: kv147 :: kv148 :: kv149 :: kv150 :: kv151 :: kv152 :: kv153 :: kv154 :: kv155 :: kv156 :: kv157 :: kv158 :: kv159 :: kv160 :: kv161 :: kv162 :: kv163 :: kv164 :: kv165 :: kv166 :: kv167 :: kv168 :: kv169 :: kv170 :: kv171 :: kv172 :: kv173 :: kv174 :: kv175 :: kv176 :: kv177 :: kc178 :: kc179 :: kc180 :: kc181 :: kc182 :: kc183 :: kc184 :: kc185 :: kc186 :: kc187 :: kc188 :: kc189 :: kc190 :: kc191 :: kc192 :: kc193 :: kc194 :: kc195 :: kc196 :: kc197 :: kc198 :: kc199 :: kc200 :: kc201 :: kc202 :: kc203 :: kc204 :: kc205 :: kc206 :: kc207 :: kc208 :: kc209 :: kc210 :: kc211 :: kc212 :: kc213 :: kc214 :: kc215 :: kc216 :: kc217 :: kc218 :: kc219 :: kc220 :: kc221 :: kc222 :: kc223 :: kc224 :: kc225 :: kc226 :: kc227 :: kc228 :: kc229 :: kc230 :: kc231 :: kc232 :: kc233 :: kc234 :: kc235 :: kc236 :: kc237 :: kc238 :: kc239 :: kc240 :: kc241 :: kc242 :: kc243 :: kc244 :: kc245 :: kc246 :: kc247 :: kc248 :: kc249 :: kc250 :: kc251 :: kc252 :: kc253 :: kc254 :: kc255 :: kc256 :: kc257 :: kc258 :: kc259 :: kc260 :: kc261 :: kc262 :: kc263 :: kc264 :: kc265 :: kc266 :: kc267 :: kc268 :: kc269 :: kc270 :: kc271 :: kc272 :: kc273 :: kc274 :: kc275 :: kc276 :: kc277 :: kc278 :: kc279 :: kc280 :: kc281 :: kc282 :: []), []⟩ w2) :
    Code.wp Try.prog chl4C Q ⟨List.toArray (kc0 :: kc1 :: kc2 :: kc3 :: ku4 :: kc5 :: kc6 :: kc7 :: kc8 :: kc9 :: kc10 :: kc11 :: kc12 :: .slice (some ⟨bC, 0, none⟩) C.length c1 :: kc14 :: kc15 :: .pointer (some ⟨gA, 0, none⟩) :: .bool false :: .int .i64 0 :: kc19 :: kc20 :: kc21 :: kc22 :: kc23 :: kc24 :: kc25 :: kc26 :: kc27 :: kc28 :: kc29 :: kc30 :: kc31 :: kc32 :: kc33 :: kc34 :: kc35 :: kc36 :: kc37 :: kc38 :: kc39 :: kc40 :: kc41 :: kc42 :: kc43 :: kc44 :: kc45 :: kc46 :: kc47 :: kc48 :: kc49 :: kc50 :: kc51 :: kc52 :: kc53 :: kc54 :: kc55 :: kc56 :: kc57 :: kc58 :: kc59 :: kc60 :: kc61 :: kc62 :: kc63 :: kc64 :: kc65 :: kc66 :: kc67 :: kc68 :: kc69 :: kc70 :: kc71 :: kc72 :: kc73 :: kc74 :: kc75 :: kc76 :: kc77 :: kc78 :: kc79 :: kc80 :: kc81 :: kc82 :: kc83 :: kc84 :: kc85 :: kc86 :: kc87 :: kc88 :: kc89 :: kc90 :: kc91 :: kc92 :: kc93 :: kc94 :: kc95 :: kc96 :: kc97 :: kc98 :: kc99 :: kc100 :: kc101 :: kc102 :: kc103 :: kc104 :: kc105 :: kc106 :: kc107 :: kc108 :: kc109 :: kc110 :: kc111 :: kc112 :: kc113 :: kc114 :: kc115 :: kc116 :: kc117 :: kc118 :: kc119 :: kc120 :: kc121 :: kc122 :: kc123 :: kc124 :: kc125 :: kc126 :: kc127 :: kc128 :: kc129 :: kc130 :: kc131 :: kc132 :: kc133 :: kc134 :: kc135 :: kc136 :: kc137 :: kc138 :: kc139 :: kc140 :: ku141 :: ku142 :: ku143 :: ku144 :: ku145 :: ku146 :: ku147 :: ku148 :: ku149 :: ku150 :: ku151 :: ku152 :: ku153 :: ku154 :: ku155 :: ku156 :: ku157 :: ku158 :: ku159 :: ku160 :: ku161 :: ku162 :: ku163 :: ku164 :: ku165 :: ku166 :: ku167 :: ku168 :: ku169 :: ku170 :: ku171 :: ku172 :: ku173 :: ku174 :: ku175 :: ku176 :: ku177 :: kc178 :: kc179 :: kc180 :: kc181 :: kc182 :: kc183 :: kc184 :: kc185 :: kc186 :: kc187 :: kc188 :: kc189 :: kc190 :: kc191 :: kc192 :: kc193 :: kc194 :: kc195 :: kc196 :: kc197 :: kc198 :: kc199 :: kc200 :: kc201 :: kc202 :: kc203 :: kc204 :: kc205 :: kc206 :: kc207 :: kc208 :: kc209 :: kc210 :: kc211 :: kc212 :: kc213 :: kc214 :: kc215 :: kc216 :: kc217 :: kc218 :: kc219 :: kc220 :: kc221 :: kc222 :: kc223 :: kc224 :: kc225 :: kc226 :: kc227 :: kc228 :: kc229 :: kc230 :: kc231 :: kc232 :: kc233 :: kc234 :: kc235 :: kc236 :: kc237 :: kc238 :: kc239 :: kc240 :: kc241 :: kc242 :: kc243 :: kc244 :: kc245 :: kc246 :: kc247 :: kc248 :: kc249 :: kc250 :: kc251 :: kc252 :: kc253 :: kc254 :: kc255 :: kc256 :: kc257 :: kc258 :: kc259 :: kc260 :: kc261 :: kc262 :: kc263 :: kc264 :: kc265 :: kc266 :: kc267 :: kc268 :: kc269 :: kc270 :: kc271 :: kc272 :: kc273 :: kc274 :: kc275 :: kc276 :: kc277 :: kc278 :: kc279 :: kc280 :: kc281 :: kc282 :: []), []⟩ wr := by
  have HX := hide hexit
  clear hexit
  unfold chl4C
  conv => arg 2; whnf
  have HM := hide hM
  have Hcs := hide hcs
  have Hcn := hide hcn
  clear hM hcs hcn
  go_loopw [17, 18] (fun o i wr => ∃ j : Nat, j ≤ C.length ∧ i = .int .i64 j ∧ o = .bool (memB (C.take j) s.nm) ∧ Mem w' (.blk gA 59 #[.int .i64 s.k, .string s.nm, .string s.pr, .int .i64 s.lo, .int .i64 s.hi, .int .i64 s.tm, .int .i64 s.un, .int .i64 s.n] :: .blk bC 9 curC :: ts) wr) (fun _ i _ => C.length - (intOf i).toNat)
  case atStart => exact ⟨0, Nat.zero_le _, rfl, by rw [List.take_zero]; rfl, HM.out⟩
  case round =>
    obtain ⟨j, hjm, rfl, rfl, hM⟩ := hrel
    clear HM
    have HM := hide hM
    clear hM
    by_cases hj : j < C.length
    · have hj' : (j : Int) < C.length := by omega
      obtain ⟨m, hm⟩ : ∃ m, C[j]? = some m := ⟨_, List.getElem?_eq_getElem hj⟩
      have hmt := memB_take (x := s.nm) hm
      obtain ⟨o1, ho1⟩ : ∃ o1, memB (C.take j) s.nm = o1 := ⟨_, rfl⟩
      rw [ho1] at hmt ⊢
      clear ho1
      have y0 := (Mem.blk_ HM.out 1 rfl).c j (Hcs.out j _ hm)
      have lty := (Mem.blk_ HM.out 1 rfl).lt
      have bz : Blk wr gA 59 #[.int .i64 s.k, .string s.nm, .string s.pr, .int .i64 s.lo, .int .i64 s.hi, .int .i64 s.tm, .int .i64 s.un, .int .i64 s.n] := HM.out.get 0 rfl
      have ltz := bz.lt
      have z0 := bz.c 0 rfl
      have z1 := bz.c 1 rfl
      have z2 := bz.c 2 rfl
      by_cases hme : m = s.nm
      · subst hme
        rw [show decide (s.nm = s.nm) = true from decide_eq_true rfl, Bool.or_true] at hmt
        have heq : (s.nm.toList == s.nm.toList) = true := beq_self_eq_true _
        obtain ⟨hn1, hn2⟩ := Hcn.out j hm
        have Hmt := hide hmt
        clear hmt
        go_wp2_with fail
        go_quiet (fail)
        have hL : Below wr.heap.size wr (wr.drewN nq) := below_drewN (Below.refl _ _) _
        generalize (wr.drewN nq : World) = w7 at hL ⊢
        clear y0 lty heq
        replace HM := hide (HM.out.later hL)
        clear hL bz ltz z0 z1 z2
        have bz : Blk w7 gA 59 #[.int .i64 s.k, .string s.nm, .string s.pr, .int .i64 s.lo, .int .i64 s.hi, .int .i64 s.tm, .int .i64 s.un, .int .i64 s.n] := HM.out.get 0 rfl
        have ltz := bz.lt
        have z0 := bz.c 0 rfl
        have z1 := bz.c 1 rfl
        have z2 := bz.c 2 rfl
        by_cases hpe : s.pr = ByteArray.empty
        · have he1 : s.pr.toList.isEmpty = true := by rw [hpe, ByteArray.toList_eq]; rfl
          have hjl := hn1 hpe
          have hjl2 : (j : Int) = (C.length : Int) - 1 := by omega
          clear hn1 hn2 hm hpe
          go_wp2_with fail
          go_quiet (fail)
          have hL : Below w7.heap.size w7 (w7.drewN nq) := below_drewN (Below.refl _ _) _
          generalize (w7.drewN nq : World) = w8 at hL ⊢
          replace HM := hide (HM.out.later hL)
          clear hL bz ltz z0 z1 z2
          go_wp2_with fail
          go_roundw
          case rel => exact ⟨j + 1, hj, by go_num, by rw [Hmt.out], HM.out⟩
          case measure => simp [intOf] <;> omega
        · have he1 : s.pr.toList.isEmpty = false := notEmpty hpe
          have hjn := hn2 hpe
          have hjl := (List.getElem?_eq_some_iff.1 hjn).1
          have hjl2 : ¬ (j : Int) = (C.length : Int) - 1 := by omega
          obtain ⟨lm, hlm⟩ : ∃ lm : Int, (C.length : Int) - 1 = lm := ⟨_, rfl⟩
          rw [hlm] at hjl2
          have hlb : 0 ≤ lm ∧ lm ≤ 1000 := by omega
          have hjl3 : decide ((j : Int) = lm) = false := decide_eq_false hjl2
          have hjl4 : ((j : Int) == lm) = false := beq_eq_false_iff_ne.2 hjl2
          have y1 := (Mem.blk_ HM.out 1 rfl).c (j + 1) (Hcs.out (j + 1) _ hjn)
          have lty := (Mem.blk_ HM.out 1 rfl).lt
          have heq : (s.pr.toList == s.pr.toList) = true := beq_self_eq_true _
          clear hn1 hn2 hm hjn hpe
          go_wp2_with fail
          go_quiet (fail)
          have hL : Below w7.heap.size w7 (w7.drewN nq) := below_drewN (Below.refl _ _) _
          generalize (w7.drewN nq : World) = w8 at hL ⊢
          clear y1 lty heq
          replace HM := hide (HM.out.later hL)
          clear hL bz ltz z0 z1 z2
          go_wp2_with fail
          go_roundw
          case rel => exact ⟨j + 1, hj, by go_num, by rw [Hmt.out], HM.out⟩
          case measure => simp [intOf] <;> omega
      · rw [decide_eq_false hme, Bool.or_false] at hmt
        have heq : (m.toList == s.nm.toList) = false := toList_bne hme
        have Hmt := hide hmt
        clear hmt hm
        go_wp2_with fail
        go_quiet (fail)
        have hL : Below wr.heap.size wr (wr.drewN nq) := below_drewN (Below.refl _ _) _
        generalize (wr.drewN nq : World) = w7 at hL ⊢
        clear y0 lty heq
        replace HM := hide (HM.out.later hL)
        clear hL bz ltz z0 z1 z2
        go_wp2_with fail
        go_roundw
        case rel => exact ⟨j + 1, hj, by go_num, by rw [Hmt.out], HM.out⟩
        case measure => simp [intOf] <;> omega
    · obtain rfl : j = C.length := by omega
      have hjj : ¬ ((C.length : Int) < C.length) := by omega
      rw [List.take_length]
      go_wp2_with fail
      exact HX.out HM.out
end Go.Proofs.Ytiggefmckomilaa
namespace Go.Proofs.Ytiggefmckomilaa
open Go Go.RowKit

set_option maxRecDepth 1000000 in
noncomputable def chl5C : Code := ((loopsOf ((Try.f9.body).getD .skip))[4]?).getD .skip
set_option maxHeartbeats 8000000 in
set_option maxRecDepth 1000000 in
theorem chl5 {kc0 kc1 kc2 kc3 ku4 kc5 kc6 kc7 kc8 kc9 kc10 kc11 kc13 kc14 kc15 kc16 kc17 kc18 kc19 kc21 kc24 kc25 kc26 kc27 kc28 kc29 kc30 kc31 kc32 kc33 kc34 kc35 kc36 kc37 kc38 kc39 kc40 kc41 kc42 kc43 kc44 kc45 kc46 kc47 kc48 kc49 kc50 kc51 kc52 kc53 kc54 kc55 kc56 kc57 kc58 kc59 kc60 kc61 kc62 kc63 kc64 kc65 kc66 kc67 kc68 kc69 kc70 kc71 kc72 kc73 kc74 kc75 kc76 kc77 kc78 kc79 kc80 kc81 kc82 kc83 kc84 kc85 kc86 kc87 kc88 kc89 kc90 kc91 kc92 kc93 kc94 kc95 kc96 kc97 kc98 kc99 kc100 kc101 kc102 kc103 kc104 kc105 kc106 kc107 kc108 kc109 kc110 kc111 kc112 kc113 kc114 kc115 kc116 kc117 kc118 kc119 kc120 kc121 kc122 kc123 kc124 kc125 kc126 kc127 kc128 kc129 kc130 kc131 kc132 kc133 kc134 kc135 kc136 kc137 kc138 kc139 kc140 kc141 kc142 kc143 kc144 kc145 kc146 kc147 kc148 kc149 kc150 kc151 kc152 kc153 kc154 kc155 kc156 kc157 kc158 kc159 kc160 kc161 kc162 kc163 kc164 kc165 kc166 kc167 kc168 kc169 kc170 kc171 kc172 kc173 kc174 kc175 kc176 kc177 kc178 kc179 kc180 kc181 kc182 kc183 kc184 kc185 ku186 ku187 ku188 ku189 ku190 ku191 ku192 ku193 ku194 ku195 ku196 ku197 ku198 ku199 ku200 ku201 ku202 ku203 ku204 ku205 ku206 ku207 ku208 ku209 ku210 ku211 ku212 ku213 ku214 kc215 kc216 kc217 kc218 kc219 kc220 kc221 kc222 kc223 kc224 kc225 kc226 kc227 kc228 kc229 kc230 kc231 kc232 kc233 kc234 kc235 kc236 kc237 kc238 kc239 kc240 kc241 kc242 kc243 kc244 kc245 kc246 kc247 kc248 kc249 kc250 kc251 kc252 kc253 kc254 kc255 kc256 kc257 kc258 kc259 kc260 kc261 kc262 kc263 kc264 kc265 kc266 kc267 kc268 kc269 kc270 kc271 kc272 kc273 kc274 kc275 kc276 kc277 kc278 kc279 kc280 kc281 kc282 : Value} (y : Nat) (T : List Nat) (A2 : Option Addr) (c2 gB : Nat) (w' : World) (ts : List Th) (hsrt : ∀ j a b, T[j]? = some a → T[j + 1]? = some b → a < b) (hTl : T.length ≤ 1000) (hyl : y < 1000) {Q : Exit → Act → World → Prop} {wr : World} (hM : Mem w' (.row gB 3 1 (.slice A2 T.length c2) T.length (natV T) :: ts) wr)
    (hexit : ∀ ⦃kv4 kv186 kv187 kv188 kv189 kv190 kv191 kv192 kv193 kv194 kv195 kv196 kv197 kv198 kv199 kv200 kv201 kv202 kv203 kv204 kv205 kv206 kv207 kv208 kv209 kv210 kv211 kv212 kv213 kv214 : Value⦄  ⦃w2 : World⦄, Mem w' (.row gB 3 1 (.slice A2 T.length c2) T.length (natV T) :: ts) w2 → Q (.exit 8) ⟨List.toArray (kc0 :: kc1 :: kc2 :: kc3 :: kv4 :: kc5 :: kc6 :: kc7 :: kc8 :: kc9 :: kc10 :: kc11 :: .int .i64 (y : Int) :: kc13 :: kc14 :: kc15 :: kc16 :: kc17 :: kc18 :: kc19 :: .slice A2 T.length c2 :: kc21 :: .bool (metN T y T.length) :: .int .i64 (T.length : Int) :: kc24 :: kc25 :: kc26 :: kc27 :: kc28 :: kc29 :: kc30 :: kc31 :: kc32 :: kc33 :: kc34 :: kc35 :: kc36 :: kc37 :: kc38 :: kc39 :: kc40 :: kc41 :: kc42 :: kc43 :: kc44 :: kc45 :: kc46 :: kc47 :: kc48 :: kc49 :: kc50 :: kc51 :: kc52 :: kc53 :: kc54 :: kc55 :: kc56 :: kc57 :: kc58 :: kc59 :: kc60 :: kc61 :: kc62 :: kc63 :: kc64 :: kc65 :: kc66 :: kc67 :: kc68 :: kc69 :: kc70 :: kc71 :: kc72 :: kc73 :: kc74 :: kc75 :: kc76 :: kc77 :: kc78 :: kc79 :: kc80 :: kc81 :: kc82 :: kc83 :: kc84 :: kc85 :: kc86 :: kc87 :: kc88 :: kc89 :: kc90 :: kc91 :: kc92 :: kc93 :: kc94 :: kc95 :: kc96 :: kc97 :: kc98 :: kc99 :: kc100 :: kc101 :: kc102 :: kc103 :: kc104 :: kc105 :: kc106 :: kc107 :: kc108 :: kc109 :: kc110 :: kc111 :: kc112 :: kc113 :: kc114 :: kc115 :: kc116 :: kc117 :: kc118 :: kc119 :: kc120 :: kc121 :: kc122 :: kc123 :: kc124 :: kc125 :: kc126 :: kc127 :: kc128 :: kc129 :: kc130 :: kc131 :: kc132 :: kc133 :: kc134 :: kc135 :: kc136 :: kc137 :: kc138 :: kc139 :: kc140 :: kc141 :: kc142 :: kc143 :: kc144 :: kc145 :: kc146 :: kc147 :: kc148 :: kc149 :: kc150 :: kc151 :: kc152 :: kc153 :: kc154 :: kc155 :: kc156 :: kc157 :: kc158 :: kc159 :: kc160 :: kc161 :: kc162 :: kc163 :: kc164 :: kc165 :: kc166 :: kc167 :: kc168 :: kc169 :: kc170 :: kc171 :: kc172 :: kc173 :: kc174 :: kc175 :: kc176 :: kc177 :: kc178 :: kc179 :: kc180 :: kc181 :: kc182 :: kc183 :: kc184 :: kc185 :: kv186 :: kv187 :: kv188 :: kv189 :: kv190 :: kv191 :: kv192 :: kv193 :: kv194 :: kv195 :: kv196 :: kv197 :: kv198 :: kv199 :: kv200 :: kv201 :: kv202 :: kv203 :: kv204 :: kv205 :: kv206 :: kv207 :: kv208 :: kv209 :: kv210 :: kv211 :: kv212 :: kv213 :: kv214 :: kc215 :: kc216 :: kc217 :: kc218 :: kc219 :: kc220 :: kc221 :: kc222 :: kc223 :: kc224 :: kc225 :: kc226 :: kc227 :: kc228 :: kc229 :: kc230 :: kc231 :: kc232 :: kc233 :: kc234 :: kc235 :: kc236 :: kc237 :: kc238 :: kc239 :: kc240 :: kc241 :: kc242 :: kc243 :: kc244 :: kc245 :: kc246 :: kc247 :: kc248 :: kc249 :: kc250 :: kc251 :: kc252 :: kc253 :: kc254 :: kc255 :: kc256 :: kc257 :: kc258 :: kc259 :: kc260 :: kc261 :: kc262 :: kc263 :: kc264 :: kc265 :: kc266 :: kc267 :: kc268 :: kc269 :: kc270 :: kc271 :: kc272 :: kc273 :: kc274 :: kc275 :: kc276 :: kc277 :: kc278 :: kc279 :: kc280 :: kc281 :: kc282 :: []), []⟩ w2) :
    Code.wp Try.prog chl5C Q ⟨List.toArray (kc0 :: kc1 :: kc2 :: kc3 :: ku4 :: kc5 :: kc6 :: kc7 :: kc8 :: kc9 :: kc10 :: kc11 :: .int .i64 (y : Int) :: kc13 :: kc14 :: kc15 :: kc16 :: kc17 :: kc18 :: kc19 :: .slice A2 T.length c2 :: kc21 :: .bool false :: .int .i64 0 :: kc24 :: kc25 :: kc26 :: kc27 :: kc28 :: kc29 :: kc30 :: kc31 :: kc32 :: kc33 :: kc34 :: kc35 :: kc36 :: kc37 :: kc38 :: kc39 :: kc40 :: kc41 :: kc42 :: kc43 :: kc44 :: kc45 :: kc46 :: kc47 :: kc48 :: kc49 :: kc50 :: kc51 :: kc52 :: kc53 :: kc54 :: kc55 :: kc56 :: kc57 :: kc58 :: kc59 :: kc60 :: kc61 :: kc62 :: kc63 :: kc64 :: kc65 :: kc66 :: kc67 :: kc68 :: kc69 :: kc70 :: kc71 :: kc72 :: kc73 :: kc74 :: kc75 :: kc76 :: kc77 :: kc78 :: kc79 :: kc80 :: kc81 :: kc82 :: kc83 :: kc84 :: kc85 :: kc86 :: kc87 :: kc88 :: kc89 :: kc90 :: kc91 :: kc92 :: kc93 :: kc94 :: kc95 :: kc96 :: kc97 :: kc98 :: kc99 :: kc100 :: kc101 :: kc102 :: kc103 :: kc104 :: kc105 :: kc106 :: kc107 :: kc108 :: kc109 :: kc110 :: kc111 :: kc112 :: kc113 :: kc114 :: kc115 :: kc116 :: kc117 :: kc118 :: kc119 :: kc120 :: kc121 :: kc122 :: kc123 :: kc124 :: kc125 :: kc126 :: kc127 :: kc128 :: kc129 :: kc130 :: kc131 :: kc132 :: kc133 :: kc134 :: kc135 :: kc136 :: kc137 :: kc138 :: kc139 :: kc140 :: kc141 :: kc142 :: kc143 :: kc144 :: kc145 :: kc146 :: kc147 :: kc148 :: kc149 :: kc150 :: kc151 :: kc152 :: kc153 :: kc154 :: kc155 :: kc156 :: kc157 :: kc158 :: kc159 :: kc160 :: kc161 :: kc162 :: kc163 :: kc164 :: kc165 :: kc166 :: kc167 :: kc168 :: kc169 :: kc170 :: kc171 :: kc172 :: kc173 :: kc174 :: kc175 :: kc176 :: kc177 :: kc178 :: kc179 :: kc180 :: kc181 :: kc182 :: kc183 :: kc184 :: kc185 :: ku186 :: ku187 :: ku188 :: ku189 :: ku190 :: ku191 :: ku192 :: ku193 :: ku194 :: ku195 :: ku196 :: ku197 :: ku198 :: ku199 :: ku200 :: ku201 :: ku202 :: ku203 :: ku204 :: ku205 :: ku206 :: ku207 :: ku208 :: ku209 :: ku210 :: ku211 :: ku212 :: ku213 :: ku214 :: kc215 :: kc216 :: kc217 :: kc218 :: kc219 :: kc220 :: kc221 :: kc222 :: kc223 :: kc224 :: kc225 :: kc226 :: kc227 :: kc228 :: kc229 :: kc230 :: kc231 :: kc232 :: kc233 :: kc234 :: kc235 :: kc236 :: kc237 :: kc238 :: kc239 :: kc240 :: kc241 :: kc242 :: kc243 :: kc244 :: kc245 :: kc246 :: kc247 :: kc248 :: kc249 :: kc250 :: kc251 :: kc252 :: kc253 :: kc254 :: kc255 :: kc256 :: kc257 :: kc258 :: kc259 :: kc260 :: kc261 :: kc262 :: kc263 :: kc264 :: kc265 :: kc266 :: kc267 :: kc268 :: kc269 :: kc270 :: kc271 :: kc272 :: kc273 :: kc274 :: kc275 :: kc276 :: kc277 :: kc278 :: kc279 :: kc280 :: kc281 :: kc282 :: []), []⟩ wr := by
  have HX := hide hexit
  clear hexit
  unfold chl5C
  conv => arg 2; whnf
  have HM := hide hM
  have Hsrt := hide hsrt
  clear hM hsrt
  go_loopw [22, 23] (fun o i wr => ∃ j : Nat, j ≤ T.length ∧ i = .int .i64 j ∧ o = .bool (metN T y j) ∧ Mem w' (.row gB 3 1 (.slice A2 T.length c2) T.length (natV T) :: ts) wr) (fun _ i _ => T.length - (intOf i).toNat)
  case atStart => exact ⟨0, Nat.zero_le _, rfl, by unfold metN; rw [List.take_zero]; rfl, HM.out⟩
  case round =>
    obtain ⟨j, hjm, rfl, rfl, hM⟩ := hrel
    clear HM
    have HM := hide hM
    clear hM
    by_cases hj : j < T.length
    · have hj' : (j : Int) < T.length := by omega
      obtain ⟨zt, hzt⟩ : ∃ m, T[j]? = some m := ⟨_, List.getElem?_eq_getElem hj⟩
      have hmn := metN_succ (i := y) hzt
      obtain ⟨o1, ho1⟩ : ∃ o1, metN T y j = o1 := ⟨_, rfl⟩
      rw [ho1] at hmn ⊢
      clear ho1
      obtain ⟨bI, curI, rfl, -, hbI, -, -, hcI⟩ := row_blk (Mem.row_ HM.out 0 rfl) (by omega)
      have natAt : ∀ (i z : Nat), T[i]? = some z → (natV T)[i]? = some (.int .i64 (z : Int)) := fun i z h => by unfold natV; rw [List.getElem?_map, h]; rfl
      have y0 := hbI.c j (hcI j _ (natAt j zt hzt))
      have lty := hbI.lt
      have Hmn := hide hmn
      clear hmn
      cases o1 with
      | true =>
        go_wp2_with fail
        rcases Nat.eq_zero_or_pos j with hj0 | hj0
        · subst hj0
          clear hzt hcI hbI natAt
          go_quiet (fail)
          have hL : Below wr.heap.size wr (wr.drewN nq) := below_drewN (Below.refl _ _) _
          generalize (wr.drewN nq : World) = w8 at hL ⊢
          clear y0 lty
          replace HM := hide (HM.out.later hL)
          clear hL
          go_wp2_with fail
          go_roundw
          case rel => exact ⟨0 + 1, hj, by go_num, by rw [Hmn.out]; rfl, HM.out⟩
          case measure => simp [intOf] <;> omega
        · obtain ⟨i, rfl⟩ : ∃ i, j = i + 1 := ⟨j - 1, by omega⟩
          obtain ⟨zp, hzp⟩ : ∃ m, T[i]? = some m := ⟨_, List.getElem?_eq_getElem (by omega)⟩
          have hlt := Hsrt.out i zp zt hzp hzt
          have y1 := hbI.c i (hcI i _ (natAt i zp hzp))
          have hn1 : ¬ zt ≤ zp := by omega
          have hn2 : ¬ (zt : Int) ≤ (zp : Int) := by omega
          clear hzt hzp hcI hbI natAt
          go_quiet (fail)
          have hL : Below wr.heap.size wr (wr.drewN nq) := below_drewN (Below.refl _ _) _
          generalize (wr.drewN nq : World) = w8 at hL ⊢
          clear y0 y1 lty
          replace HM := hide (HM.out.later hL)
          clear hL
          go_wp2_with fail
          go_roundw
          case rel => exact ⟨i + 1 + 1, hj, by go_num, by rw [Hmn.out]; rfl, HM.out⟩
          case measure => simp [intOf] <;> omega
      | false =>
        by_cases hzy : zt = y
        · subst hzy
          go_wp2_with fail
          rcases Nat.eq_zero_or_pos j with hj0 | hj0
          · subst hj0
            clear hzt hcI hbI natAt
            go_quiet (fail)
            have hL : Below wr.heap.size wr (wr.drewN nq) := below_drewN (Below.refl _ _) _
            generalize (wr.drewN nq : World) = w8 at hL ⊢
            clear y0 lty
            replace HM := hide (HM.out.later hL)
            clear hL
            go_wp2_with fail
            go_roundw
            case rel => exact ⟨0 + 1, hj, by go_num, by rw [Hmn.out]; simp, HM.out⟩
            case measure => simp [intOf] <;> omega
          · obtain ⟨i, rfl⟩ : ∃ i, j = i + 1 := ⟨j - 1, by omega⟩
            obtain ⟨zp, hzp⟩ : ∃ m, T[i]? = some m := ⟨_, List.getElem?_eq_getElem (by omega)⟩
            have hlt := Hsrt.out i zp zt hzp hzt
            have y1 := hbI.c i (hcI i _ (natAt i zp hzp))
            have hn1 : ¬ zt ≤ zp := by omega
            have hn2 : ¬ (zt : Int) ≤ (zp : Int) := by omega
            clear hzt hzp hcI hbI natAt
            go_quiet (fail)
            have hL : Below wr.heap.size wr (wr.drewN nq) := below_drewN (Below.refl _ _) _
            generalize (wr.drewN nq : World) = w8 at hL ⊢
            clear y0 y1 lty
            replace HM := hide (HM.out.later hL)
            clear hL
            go_wp2_with fail
            go_roundw
            case rel => exact ⟨i + 1 + 1, hj, by go_num, by rw [Hmn.out]; simp, HM.out⟩
            case measure => simp [intOf] <;> omega
        · have hzy2 : ¬ (zt : Int) = (y : Int) := by omega
          go_wp2_with fail
          rcases Nat.eq_zero_or_pos j with hj0 | hj0
          · subst hj0
            clear hzt hcI hbI natAt
            go_quiet (fail)
            have hL : Below wr.heap.size wr (wr.drewN nq) := below_drewN (Below.refl _ _) _
            generalize (wr.drewN nq : World) = w8 at hL ⊢
            clear y0 lty
            replace HM := hide (HM.out.later hL)
            clear hL
            go_wp2_with fail
            go_roundw
            case rel => exact ⟨0 + 1, hj, by go_num, by rw [Hmn.out]; (simp [hzy]; omega), HM.out⟩
            case measure => simp [intOf] <;> omega
          · obtain ⟨i, rfl⟩ : ∃ i, j = i + 1 := ⟨j - 1, by omega⟩
            obtain ⟨zp, hzp⟩ : ∃ m, T[i]? = some m := ⟨_, List.getElem?_eq_getElem (by omega)⟩
            have hlt := Hsrt.out i zp zt hzp hzt
            have y1 := hbI.c i (hcI i _ (natAt i zp hzp))
            have hn1 : ¬ zt ≤ zp := by omega
            have hn2 : ¬ (zt : Int) ≤ (zp : Int) := by omega
            clear hzt hzp hcI hbI natAt
            go_quiet (fail)
            have hL : Below wr.heap.size wr (wr.drewN nq) := below_drewN (Below.refl _ _) _
            generalize (wr.drewN nq : World) = w8 at hL ⊢
            clear y0 y1 lty
            replace HM := hide (HM.out.later hL)
            clear hL
            go_wp2_with fail
            go_roundw
            case rel => exact ⟨i + 1 + 1, hj, by go_num, by rw [Hmn.out]; (simp [hzy]; omega), HM.out⟩
            case measure => simp [intOf] <;> omega
    · obtain rfl : j = T.length := by omega
      have hjj : ¬ ((T.length : Int) < T.length) := by omega
      go_wp2_with fail
      exact HX.out HM.out
end Go.Proofs.Ytiggefmckomilaa
