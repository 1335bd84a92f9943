/-
  How much a book holds: plain words.
  Names of two letters; the reference's new book.
  The law TraceRuns returns true.
  The arguments of the laws about traces, opened: lists of acts.
-/
import Derived.Test.YtiggefmckomilaaRefDef
import Derived.Test.YtiggefmckomilaaRefValue
import Derived.BigQuiet
import Derived.Test.YtiggefmckomilaaRunL
import Derived.Test.YtiggefmckomilaaRegC
import Derived.Test.YtiggefmckomilaaRows
set_option linter.unusedSimpArgs false
set_option linter.unusedVariables false
namespace Go.Proofs.Ytiggefmckomilaa
open Go Go.RowKit

/-- A name of two letters. -/
def nm2 (i : Nat) : ByteArray := ⟨#[UInt8.ofNat (97 + i / 26), UInt8.ofNat (97 + i % 26)]⟩
end Go.Proofs.Ytiggefmckomilaa
namespace Go.Proofs.Ytiggefmckomilaa
open Go Go.RowKit

theorem abc_cut : ∀ a, a < 3 → ∀ b, b < 26 → (⟨#[97, 98, 99, 100, 101, 102, 103, 104, 105, 106, 107, 108, 109, 110, 111, 112, 113, 114, 115, 116, 117, 118, 119, 120, 121, 122]⟩ : ByteArray).extract a (a + 1) ++ (⟨#[97, 98, 99, 100, 101, 102, 103, 104, 105, 106, 107, 108, 109, 110, 111, 112, 113, 114, 115, 116, 117, 118, 119, 120, 121, 122]⟩ : ByteArray).extract b (b + 1) = ⟨#[UInt8.ofNat (97 + a), UInt8.ofNat (97 + b)]⟩ := by decide +kernel
set_option maxHeartbeats 2000000 in
set_option maxRecDepth 100000 in
theorem name_any (i : Nat) (hi : i < 71) (w : World) : Calls Try.prog 30 #[.int .i64 (i : Int)] w fun e w' => e = .returned (.string (nm2 i)) ∧ Below w.heap.size w w' := by
  have h1 : (i : Int).tdiv 26 = ((i / 26 : Nat) : Int) := by rw [Int.tdiv_eq_ediv_of_nonneg (by omega)]; omega
  have h2 : (i : Int).tmod 26 = ((i % 26 : Nat) : Int) := by rw [Int.tmod_eq_emod_of_nonneg (by omega)]; omega
  obtain ⟨a, ha⟩ : ∃ a, i / 26 = a := ⟨_, rfl⟩
  obtain ⟨b, hb⟩ : ∃ b, i % 26 = b := ⟨_, rfl⟩
  have hab : a ≤ 2 ∧ b ≤ 25 := by omega
  have hn : nm2 i = ⟨#[UInt8.ofNat (97 + a), UInt8.ofNat (97 + b)]⟩ := by unfold nm2; rw [ha, hb]
  rw [ha] at h1
  rw [hb] at h2
  rw [hn]
  clear hn ha hb
  go_enter Try.func30, Try.ntmps30
  go_wp2_with fail
  go_quiet (fail)
  have hL : Below w.heap.size w (w.drewN nq) := below_drewN (Below.refl _ _) _
  generalize (w.drewN nq : World) = w2 at hL ⊢
  have hx := abc_cut a (by omega) b (by omega)
  go_wp2
  go_ret
  exact ⟨by rw [← hx]; rfl, hL⟩
theorem rNew_any (w : World) : Calls Try.prog 29 #[] w fun e w' => e = .returned (ptrB w.heap.size) ∧ w' = w.alloc (.cells #[.slice none 0 0] 117) := by
  unfold ptrB
  go_enter Try.func29, Try.ntmps29
  go_wp2
  go_ret
  exact ⟨rfl, rfl⟩
theorem rmem_new {w0 W : World} {ts : List Th} (h : Mem w0 ts W) : RMem w0 [] W.heap.size (.slice none 0 0) ts (W.alloc (.cells #[.slice none 0 0] 117)) := by
  refine ⟨trivial, ?_⟩
  have h1 := (h.nilRow w0.heap.size 121 15).alloc #[.slice none 0 0] 117
  exact h1
end Go.Proofs.Ytiggefmckomilaa
namespace Go.Proofs.Ytiggefmckomilaa
open Go Go.RowKit

set_option maxHeartbeats 8000000 in
set_option maxRecDepth 100000 in
theorem TraceRuns_any (ac : Nat → ActR) (A : Option Addr) (n c : Nat) (w : World) (hrow : Rows_ w w.heap.size A n 8 (fun i => actL (ac i))) (hok : ∀ i, ActOk (ac i)) (hn : n ≤ maxLen) :
    Calls Try.prog 11 #[.slice A n c] w fun e w' => e = .returned (.bool true) ∧ Below w.heap.size w w' := by
  have hn63 : (n : Int) ≤ 9223372036854775807 := by unfold maxLen at hn; omega
  by_cases h60 : (60 : Int) < n
  · go_enter Try.func11, Try.ntmps11
    have HB := hide (Below.refl w.heap.size w)
    go_wp2_with fail
    refine (works_any _).mono ?_
    rintro e w2 ⟨rfl, hb⟩
    replace HB := hide (onward HB.out hb)
    clear hb
    go_wp2
    go_ret
    exact ⟨rfl, HB.out⟩
  · have Hrow := hide hrow
    have Hok := hide hok
    clear hrow hok
    go_enter Try.func11, Try.ntmps11
    have HM := hide (Mem.start w)
    go_wp2_with fail
    refine (New_any _).mono ?_
    rintro e w1 ⟨p, L, rfl, hb, hB, hL⟩
    have HM1 := hide (HM.out.add (t := .book [] p L) hB hb hL)
    clear HM hb hB hL
    unfold ptrB
    go_wp2_with fail
    refine (rNew_any _).mono ?_
    rintro e w2 ⟨rfl, hw2⟩
    have hR := rmem_new HM1.out
    rw [← hw2] at hR
    have HR := hide hR
    clear HM1 hw2 hR
    unfold ptrB
    go_wp2_with fail
    refine rnl ac A n c w Hrow.out Hok.out (by omega) p w1.heap.size L _ HR.out ?_
    clear HR
    intro kv2 kv3 kv4 kv6 kv7 kv8 kv9 kv10 kv11 kv12 kv13 kv14 kv15 kv22 kv23 kv24 kv25 kv26 kv27 kv28 kv29 kv30 kv31 kv32 kv33 kv34 kv35 kv36 kv37 kv38 kv39 kv40 kv41 kv42 kv43 kv44 kv45 kv46 kv47 kv48 kv49 kv50 kv51 kv52 kv53 kv54 kv55 kv56 kv57 kv58 kv59 kv60 kv61 kv62 kv63 kv64 kv65 kv66 kv67 kv68 kv69 kv70 kv71 kv72 kv73 kv74 kv75 kv76 kv77 kv78 kv79 kv80 kv81 kv82 kv83 kv84 kv85 kv86 kv87 kv88 kv89 kv90 kv91 kv92 kv93 kv94 kv95 kv96 kv97 kv98 kv99 kv100 kv101 kv102 kv103 kv104 kv105 kv106 kv107 kv108 kv109 kv110 kv111 kv112 kv113 kv114 kv115 kv116 kv117 kv118 kv119 kv120 kv121 kv122 kv123 kv124 kv125 kv126 kv127 kv128 kv129 kv130 kv131 kv132 kv133 kv134 kv135 kv136 kv137 kv138 kv139 kv140 kv141 kv142 kv143 kv144 kv145 kv146 kv147 kv148 kv149 kv150 kv151 kv152 kv153 kv154 kv155 kv156 kv157 kv158 kv159 kv160 kv161 kv162 kv163 kv164 kv165 kv166 kv167 kv168 kv169 kv170 kv171 kv172 kv173 kv174 kv175 kv176 kv177 kv178 kv179 kv180 kv181 kv182 kv183 kv184 kv185 kv186
    intro w3 hB
    have HB := hide hB
    clear hB
    go_wp2_with fail
    refine (works_any _).mono ?_
    rintro e w4 ⟨rfl, hb⟩
    replace HB := hide (onward HB.out hb)
    clear hb
    go_wp2
    go_ret
    exact ⟨rfl, HB.out⟩
end Go.Proofs.Ytiggefmckomilaa
namespace Go.Proofs.Ytiggefmckomilaa
open Go Go.RowKit Go.ChangeShapes Go.WideShapes Go.Deep

theorem wfT_i64 {n : Int} (h : (Lit.int .i64 n).wf = true) : -9223372036854775808 ≤ n ∧ n ≤ 9223372036854775807 := by
  simp only [Lit.wf, Bool.and_eq_true, decide_eq_true_eq] at h
  exact ⟨h.1, h.2⟩
theorem wfA_u8 {n : Int} (h : (Lit.int .u8 n).wf = true) : 0 ≤ n ∧ n ≤ 255 := by
  simp only [Lit.wf, Bool.and_eq_true, decide_eq_true_eq] at h
  exact ⟨h.1, h.2⟩
theorem avInt : AllV Try.prog 3 1 (fun cs => ∃ z, cs = [.int .i64 z] ∧ (Lit.int .i64 z).wf = true) := allV_int Try.underlying3 (by kernel_rfl)
theorem avStr : AllV Try.prog 9 1 (fun cs => ∃ s : ByteArray, cs = [.string s] ∧ s.size ≤ maxLen) := allV_string Try.underlying9 (by kernel_rfl)
set_option maxRecDepth 100000 in
theorem avSpan : AllV Try.prog 23 2 (fun cs => ∃ lo hi, cs = [.int .i64 lo, .int .i64 hi]) := by
  refine ⟨by kernel_rfl, fun H enc w base spare held n cs y h => ?_⟩
  obtain ⟨hl, hf⟩ := read_structV Try.underlying23 (by kernel_rfl : Try.prog.cellsOf 23 = 2) h
  refine ⟨hl, ?_⟩
  obtain ⟨c0, r0, rfl, h0⟩ := len1 hl
  obtain ⟨c1, r1, rfl, h1⟩ := len1 h0
  obtain rfl := len0 h1
  obtain ⟨z0, e0, w0⟩ := hf 0 _ 1 _ rfl avInt
  obtain ⟨z1, e1, w1⟩ := hf 1 _ 1 _ rfl avInt
  simp at e0 e1
  subst e0 e1
  exact ⟨z0, z1, rfl⟩
set_option maxRecDepth 100000 in
theorem avAct : AllV Try.prog 59 8 (fun cs => ∃ a : ActR, ActOk a ∧ cs = actL a) := by
  refine ⟨by kernel_rfl, fun H enc w base spare held n cs y h => ?_⟩
  obtain ⟨hl, hf⟩ := read_structV Try.underlying59 (by kernel_rfl : Try.prog.cellsOf 59 = 8) h
  refine ⟨hl, ?_⟩
  obtain ⟨c0, r0, rfl, h0⟩ := len1 hl
  obtain ⟨c1, r1, rfl, h1⟩ := len1 h0
  obtain ⟨c2, r2, rfl, h2⟩ := len1 h1
  obtain ⟨c3, r3, rfl, h3⟩ := len1 h2
  obtain ⟨c4, r4, rfl, h4⟩ := len1 h3
  obtain ⟨c5, r5, rfl, h5⟩ := len1 h4
  obtain ⟨c6, r6, rfl, h6⟩ := len1 h5
  obtain ⟨c7, r7, rfl, h7⟩ := len1 h6
  obtain rfl := len0 h7
  obtain ⟨z0, e0, w0⟩ := hf 0 _ 1 _ rfl avInt
  obtain ⟨z1, e1, w1⟩ := hf 1 _ 1 _ rfl avStr
  obtain ⟨z2, e2, w2⟩ := hf 2 _ 1 _ rfl avStr
  obtain ⟨z3, z4, e3⟩ := hf 3 _ 2 _ rfl avSpan
  obtain ⟨z5, e5, w5⟩ := hf 4 _ 1 _ rfl avInt
  obtain ⟨z6, e6, w6⟩ := hf 5 _ 1 _ rfl avInt
  obtain ⟨z7, e7, w7⟩ := hf 6 _ 1 _ rfl avInt
  simp at e0 e1 e2 e3 e5 e6 e7
  obtain ⟨rfl, rfl⟩ := e3
  subst e0 e1 e2 e5 e6 e7
  exact ⟨⟨z0, z1, z2, _, _, z5, z6, z7⟩, ⟨(wfT_i64 w0).1, (wfT_i64 w0).2, w1, w2⟩, rfl⟩
section
variable {H : Type} {enc : TypeId × Value → H} {w : World} {base : Nat} {spare : Nat → Bool} {held : Bool}
set_option maxRecDepth 100000 in
theorem open_acts {r : Reach} {b0 : Nat} {v : Value} {d : DataW H} {ps : List MemPlace} (hv : Value.okWide Try.prog w r b0 56 v) (h : DataW.Trod enc Try.prog w base spare held 56 v d ps) :
    ∃ (A : Option Addr) (n c : Nat) (ac : Nat → ActR), v = .slice A n c ∧ n ≤ maxLen ∧ Rows_ w w.heap.size A n 8 (fun i => actL (ac i)) ∧ ∀ i, ActOk (ac i) := by
  obtain ⟨A, n, c, f, h1, h2, h3, h4, h5⟩ := open_slV Try.underlying56 avAct (by decide) hv h
  have z : ActOk ⟨0, ⟨#[]⟩, ⟨#[]⟩, 0, 0, 0, 0, 0⟩ := by constructor <;> decide
  have ex : ∀ i, ∃ x : ActR, ActOk x ∧ (i < n → f i = actL x) := fun i => by
    by_cases hi : i < n
    · obtain ⟨x, hx, e⟩ := (h4 i hi).2
      exact ⟨x, hx, fun _ => e⟩
    · exact ⟨_, z, fun h => absurd h hi⟩
  refine ⟨A, n, c, fun i => Classical.choose (ex i), h1, Nat.le_trans h2 h3, fun hn => ?_, fun i => (Classical.choose_spec (ex i)).1⟩
  obtain ⟨b, off, e, hl, hc⟩ := h5 hn
  exact ⟨b, off, e, hl, fun i hi j v hv => hc i hi j v (by rw [(Classical.choose_spec (ex i)).2 hi]; exact hv)⟩
end
end Go.Proofs.Ytiggefmckomilaa
