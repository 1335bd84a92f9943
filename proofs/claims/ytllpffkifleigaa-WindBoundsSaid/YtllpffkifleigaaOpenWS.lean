/-
  The arguments of the laws about sights, opened: sites, spans, lists of rays, of what is seen, and of sights, with the bounds on their lengths.
-/
import Derived.Test.YtllpffkifleigaaOpenV
import Derived.Test.YtllpffkifleigaaWdSigM
import Derived.Test.YtllpffkifleigaaRows
import Derived.SizedLaws
set_option linter.unusedSimpArgs false
set_option linter.unusedVariables false
namespace Go.Proofs.Ytllpffkifleigaa
open Go Go.RowKit Go.ChangeShapes Go.WideShapes Go.Deep

theorem wfS_i64 {n : Int} (h : (Lit.int .i64 n).wf = true) : I64 n := by
  simp only [Lit.wf, Bool.and_eq_true, decide_eq_true_eq] at h
  exact ⟨h.1, h.2⟩
theorem avInt : AllV Try.prog 3 1 (fun cs => ∃ z, cs = [.int .i64 z] ∧ (Lit.int .i64 z).wf = true) := allV_int Try.underlying3 (by kernel_rfl)
theorem avStr : AllV Try.prog 9 1 (fun cs => ∃ s : ByteArray, cs = [.string s] ∧ s.size ≤ maxLen) := allV_string Try.underlying9 (by kernel_rfl)
set_option maxRecDepth 100000 in
theorem avSpan : AllV Try.prog 32 2 (fun cs => ∃ lo hi, I64 lo ∧ I64 hi ∧ cs = [.int .i64 lo, .int .i64 hi]) := by
  refine ⟨by kernel_rfl, fun H enc w base spare held n cs y h => ?_⟩
  obtain ⟨hl, hf⟩ := read_structV Try.underlying32 (by kernel_rfl : Try.prog.cellsOf 32 = 2) h
  refine ⟨hl, ?_⟩
  obtain ⟨c0, r0, rfl, h0⟩ := len1 hl
  obtain ⟨c1, r1, rfl, h1⟩ := len1 h0
  obtain rfl := len0 h1
  obtain ⟨z0, e0, w0⟩ := hf 0 _ 1 _ rfl avInt
  obtain ⟨z1, e1, w1⟩ := hf 1 _ 1 _ rfl avInt
  simp at e0 e1
  subst e0
  subst e1
  exact ⟨z0, z1, wfS_i64 w0, wfS_i64 w1, rfl⟩
set_option maxRecDepth 100000 in
theorem avSite : AllV Try.prog 83 8 (fun cs => ∃ (s : ByteArray) (x y z r g st wd : Int), s.size ≤ maxLen ∧ I64 x ∧ I64 y ∧ I64 z ∧ I64 r ∧ I64 g ∧ I64 st ∧ I64 wd ∧ cs = [.string s, .int .i64 x, .int .i64 y, .int .i64 z, .int .i64 r, .int .i64 g, .int .i64 st, .int .i64 wd]) := by
  refine ⟨by kernel_rfl, fun H enc w base spare held n cs y h => ?_⟩
  obtain ⟨hl, hf⟩ := read_structV Try.underlying83 (by kernel_rfl : Try.prog.cellsOf 83 = 8) h
  refine ⟨hl, ?_⟩
  obtain ⟨c0, r0, rfl, h0⟩ := len1 hl
  obtain ⟨c1, r1, rfl, h1⟩ := len1 h0
  obtain ⟨c2, r2, rfl, h2⟩ := len1 h1
  obtain ⟨c3, r3, rfl, h3⟩ := len1 h2
  obtain ⟨c4, r4, rfl, h4⟩ := len1 h3
  obtain ⟨c5, r5, rfl, h5⟩ := len1 h4
  obtain ⟨c6, r6, rfl, h6⟩ := len1 h5
  obtain ⟨c7, r7, rfl, h7⟩ := len1 h6
  obtain rfl := len0 h7
  obtain ⟨z0, e0, w0⟩ := hf 0 _ 1 _ rfl avStr
  obtain ⟨z1, e1, w1⟩ := hf 1 _ 1 _ rfl avInt
  obtain ⟨z2, e2, w2⟩ := hf 2 _ 1 _ rfl avInt
  obtain ⟨z3, e3, w3⟩ := hf 3 _ 1 _ rfl avInt
  obtain ⟨z4, e4, w4⟩ := hf 4 _ 1 _ rfl avInt
  obtain ⟨z5, e5, w5⟩ := hf 5 _ 1 _ rfl avInt
  obtain ⟨z6, e6, w6⟩ := hf 6 _ 1 _ rfl avInt
  obtain ⟨z7, e7, w7⟩ := hf 7 _ 1 _ rfl avInt
  simp at e0 e1 e2 e3 e4 e5 e6 e7
  subst e0
  subst e1
  subst e2
  subst e3
  subst e4
  subst e5
  subst e6
  subst e7
  exact ⟨z0, z1, z2, z3, z4, z5, z6, z7, w0, wfS_i64 w1, wfS_i64 w2, wfS_i64 w3, wfS_i64 w4, wfS_i64 w5, wfS_i64 w6, wfS_i64 w7, rfl⟩
set_option maxRecDepth 100000 in
theorem avRay : AllV Try.prog 96 3 (fun cs => ∃ q : RayQ, cs = [.int .i64 q.a, .int .i64 q.lo, .int .i64 q.hi]) := by
  refine ⟨by kernel_rfl, fun H enc w base spare held n cs y h => ?_⟩
  obtain ⟨hl, hf⟩ := read_structV Try.underlying96 (by kernel_rfl : Try.prog.cellsOf 96 = 3) h
  refine ⟨hl, ?_⟩
  obtain ⟨c0, r0, rfl, h0⟩ := len1 hl
  obtain ⟨c1, r1, rfl, h1⟩ := len1 h0
  obtain ⟨c2, r2, rfl, h2⟩ := len1 h1
  obtain rfl := len0 h2
  obtain ⟨z0, e0, w0⟩ := hf 0 _ 1 _ rfl avInt
  obtain ⟨l1, u1, lw1, uw1, e1⟩ := hf 1 _ 2 _ rfl avSpan
  simp at e0 e1
  subst e0
  obtain ⟨rfl, rfl⟩ := e1
  exact ⟨⟨z0, _, _⟩, rfl⟩
set_option maxRecDepth 100000 in
theorem avSeen : AllV Try.prog 105 13 (fun cs => ∃ q : SeenQ, q.s.size ≤ maxLen ∧ cs = [.string q.s, .int .i64 q.x, .int .i64 q.y, .int .i64 q.z, .int .i64 q.r, .int .i64 q.g, .int .i64 q.st, .int .i64 q.wd, .int .i64 q.t, .int .i64 q.slo, .int .i64 q.shi, .int .i64 q.rlo, .int .i64 q.rhi]) := by
  refine ⟨by kernel_rfl, fun H enc w base spare held n cs y h => ?_⟩
  obtain ⟨hl, hf⟩ := read_structV Try.underlying105 (by kernel_rfl : Try.prog.cellsOf 105 = 13) h
  refine ⟨hl, ?_⟩
  obtain ⟨c0, r0, rfl, h0⟩ := len1 hl
  obtain ⟨c1, r1, rfl, h1⟩ := len1 h0
  obtain ⟨c2, r2, rfl, h2⟩ := len1 h1
  obtain ⟨c3, r3, rfl, h3⟩ := len1 h2
  obtain ⟨c4, r4, rfl, h4⟩ := len1 h3
  obtain ⟨c5, r5, rfl, h5⟩ := len1 h4
  obtain ⟨c6, r6, rfl, h6⟩ := len1 h5
  obtain ⟨c7, r7, rfl, h7⟩ := len1 h6
  obtain ⟨c8, r8, rfl, h8⟩ := len1 h7
  obtain ⟨c9, r9, rfl, h9⟩ := len1 h8
  obtain ⟨c10, r10, rfl, h10⟩ := len1 h9
  obtain ⟨c11, r11, rfl, h11⟩ := len1 h10
  obtain ⟨c12, r12, rfl, h12⟩ := len1 h11
  obtain rfl := len0 h12
  obtain ⟨s0, s1, s2, s3, s4, s5, s6, s7, sw0, sw1, sw2, sw3, sw4, sw5, sw6, sw7, e0⟩ := hf 0 _ 8 _ rfl avSite
  obtain ⟨z1, e1, w1⟩ := hf 1 _ 1 _ rfl avInt
  obtain ⟨l2, u2, lw2, uw2, e2⟩ := hf 2 _ 2 _ rfl avSpan
  obtain ⟨l3, u3, lw3, uw3, e3⟩ := hf 3 _ 2 _ rfl avSpan
  simp at e0 e1 e2 e3
  obtain ⟨rfl, rfl, rfl, rfl, rfl, rfl, rfl, rfl⟩ := e0
  subst e1
  obtain ⟨rfl, rfl⟩ := e2
  obtain ⟨rfl, rfl⟩ := e3
  exact ⟨⟨_, _, _, _, _, _, _, _, z1, _, _, _, _⟩, sw0, rfl⟩
set_option maxRecDepth 100000 in
theorem avSight : AllV Try.prog 88 5 (fun cs => ∃ s : Sgt, I64 s.x ∧ I64 s.y ∧ I64 s.l ∧ I64 s.lo ∧ I64 s.hi ∧ cs = [.int .i64 s.x, .int .i64 s.y, .int .i64 s.l, .int .i64 s.lo, .int .i64 s.hi]) := by
  refine ⟨by kernel_rfl, fun H enc w base spare held n cs y h => ?_⟩
  obtain ⟨hl, hf⟩ := read_structV Try.underlying88 (by kernel_rfl : Try.prog.cellsOf 88 = 5) h
  refine ⟨hl, ?_⟩
  obtain ⟨c0, r0, rfl, h0⟩ := len1 hl
  obtain ⟨c1, r1, rfl, h1⟩ := len1 h0
  obtain ⟨c2, r2, rfl, h2⟩ := len1 h1
  obtain ⟨c3, r3, rfl, h3⟩ := len1 h2
  obtain ⟨c4, r4, rfl, h4⟩ := len1 h3
  obtain rfl := len0 h4
  obtain ⟨z0, e0, w0⟩ := hf 0 _ 1 _ rfl avInt
  obtain ⟨z1, e1, w1⟩ := hf 1 _ 1 _ rfl avInt
  obtain ⟨z2, e2, w2⟩ := hf 2 _ 1 _ rfl avInt
  obtain ⟨l3, u3, lw3, uw3, e3⟩ := hf 3 _ 2 _ rfl avSpan
  simp at e0 e1 e2 e3
  subst e0
  subst e1
  subst e2
  obtain ⟨rfl, rfl⟩ := e3
  exact ⟨⟨z0, z1, z2, _, _⟩, wfS_i64 w0, wfS_i64 w1, wfS_i64 w2, lw3, uw3, rfl⟩
section
variable {H : Type} {enc : TypeId × Value → H} {P : Program} {w : World} {base : Nat} {spare : Nat → Bool} {held : Bool}
theorem open_stV {t : TypeId} {fs : Array Field} {size : Nat} {Q : List Value → Prop} {r : Reach} {b0 : Nat} {v : Value} {d : DataW H} {ps : List MemPlace} (ht : P.underlying t = some (.struct fs)) (hQ : AllV P t size Q) (hv : Value.okWide P w r b0 t v) (h : DataW.Trod enc P w base spare held t v d ps) :
    ∃ cs : Array Value, v = .agg cs ∧ Q cs.toList := by
  obtain ⟨cs, rfl, hsz⟩ := okWide_struct ht hv
  obtain ⟨fuel, hf⟩ := h
  exact ⟨cs, rfl, (hQ.2 _ _ _ _ _ _ _ _ _ hf).2⟩
/-- A slice's datum holds as many elements as the slice is long. -/
theorem datum_sl {t e : TypeId} {A : Option Addr} {n c : Nat} {d : DataW H} {ps : List MemPlace} (ht : P.underlying t = some (.slice e)) (h : DataW.Trod enc P w base spare held t (.slice A n c) d ps) :
    n = 0 ∨ ∃ elems rest, d = .slice elems rest ∧ elems.length = n := by
  obtain ⟨fuel, hf⟩ := h
  rcases DataW.trod_slice ht hf with ⟨h1, _⟩ | ⟨a, len, cap, elems, rest, m, _, h1, h2, _, _, _, h3, _⟩
  · simp [Value.cells] at h1
    exact .inl h1.2.1
  · simp [Value.cells] at h1
    refine .inr ⟨_, _, (Prod.mk.inj h2).1, ?_⟩
    rw [List.length_map, h3]
    exact h1.2.1.symm
theorem sized_len {ts : List TypeId} {ds : List (DataW H)} (h : (DataW.weightsEach P ts ds).all (· ≤ reachBytes) = true) {j : Nat} {t e : TypeId} {d : DataW H} {n : Nat} (ht : ts[j]? = some t) (hd : ds[j]? = some d) (hu : P.underlying t = some (.slice e)) (hb : 0 < P.bytesOf e) (hn : n = 0 ∨ ∃ elems rest, d = .slice elems rest ∧ elems.length = n) : n ≤ 1000000000000000 := by
  rcases hn with rfl | ⟨elems, rest, rfl, rfl⟩
  · omega
  · have h1 := sized_slice h ht hd hu
    have h2 := reachBytes_lt
    have h3 : elems.length * 1 ≤ (elems.length + rest.length) * P.bytesOf e := Nat.mul_le_mul (by omega) hb
    omega
set_option maxRecDepth 100000 in
theorem open_spanW {r : Reach} {b0 : Nat} {v : Value} {d : DataW H} {ps : List MemPlace} (hv : Value.okWide Try.prog w r b0 32 v) (h : DataW.Trod enc Try.prog w base spare held 32 v d ps) :
    ∃ lo hi, v = .agg #[.int .i64 lo, .int .i64 hi] ∧ I64 lo ∧ I64 hi := by
  obtain ⟨cs, rfl, lo, hi, h1, h2, h3⟩ := open_stV Try.underlying32 avSpan hv h
  exact ⟨lo, hi, by rw [← Array.toArray_toList (xs := cs), h3], h1, h2⟩
set_option maxRecDepth 100000 in
theorem open_siteW {r : Reach} {b0 : Nat} {v : Value} {d : DataW H} {ps : List MemPlace} (hv : Value.okWide Try.prog w r b0 83 v) (h : DataW.Trod enc Try.prog w base spare held 83 v d ps) :
    ∃ (s : ByteArray) (x y z rr g st wd : Int), v = siteV s x y z rr g st wd ∧ s.size ≤ maxLen := by
  obtain ⟨cs, rfl, s, x, y, z, rr, g, st, wd, h1, -, -, -, -, -, -, -, h3⟩ := open_stV Try.underlying83 avSite hv h
  refine ⟨s, x, y, z, rr, g, st, wd, ?_, h1⟩
  unfold siteV
  rw [← Array.toArray_toList (xs := cs), h3]
set_option maxRecDepth 100000 in
theorem open_rays {r : Reach} {b0 : Nat} {v : Value} {d : DataW H} {ps : List MemPlace} (hv : Value.okWide Try.prog w r b0 84 v) (h : DataW.Trod enc Try.prog w base spare held 84 v d ps) :
    ∃ (A : Option Addr) (n c : Nat) (Q : List RayQ), v = .slice A n c ∧ Q.length = n ∧ n ≤ maxLen ∧ RaysAtW w A Q ∧ (n = 0 ∨ ∃ elems rest, d = .slice elems rest ∧ elems.length = n) := by
  obtain ⟨A, n, c, f, rfl, h2, h3, h4, h5⟩ := open_slV Try.underlying84 avRay (by decide) hv h
  have hd := datum_sl Try.underlying84 h
  haveI : Inhabited RayQ := ⟨ray0⟩
  obtain ⟨g, hg⟩ := choose_lt (α := RayQ) (p := fun i x => f i = [.int .i64 x.a, .int .i64 x.lo, .int .i64 x.hi]) (fun i hi => (h4 i hi).2)
  have hget : ∀ i, i < n → ((List.range n).map g).getD i ray0 = g i := fun i hi => by simp [List.getD, hi]
  refine ⟨A, n, c, (List.range n).map g, rfl, by simp, by omega, fun hn => ?_, hd⟩
  have hn' : 0 < n := by simpa using hn
  obtain ⟨b, off, e1, e2, e3⟩ := h5 hn'
  refine ⟨b, off, e1, e2, fun i hi => ?_⟩
  have hi' : i < n := by simpa using hi
  have ec := hg i hi'
  rw [hget i hi']
  exact ⟨e3 i hi' 0 _ (by rw [ec]; rfl), e3 i hi' 1 _ (by rw [ec]; rfl), e3 i hi' 2 _ (by rw [ec]; rfl)⟩
set_option maxRecDepth 100000 in
theorem open_seens {r : Reach} {b0 : Nat} {v : Value} {d : DataW H} {ps : List MemPlace} (hv : Value.okWide Try.prog w r b0 85 v) (h : DataW.Trod enc Try.prog w base spare held 85 v d ps) :
    ∃ (A : Option Addr) (n c : Nat) (Q : List SeenQ), v = .slice A n c ∧ Q.length = n ∧ n ≤ maxLen ∧ (∀ q ∈ Q, q.s.size ≤ 9223372036854775807) ∧ SeensAt w A Q ∧ (n = 0 ∨ ∃ elems rest, d = .slice elems rest ∧ elems.length = n) := by
  obtain ⟨A, n, c, f, rfl, h2, h3, h4, h5⟩ := open_slV Try.underlying85 avSeen (by decide) hv h
  have hd := datum_sl Try.underlying85 h
  haveI : Inhabited SeenQ := ⟨seen0⟩
  obtain ⟨g, hg⟩ := choose_lt (α := SeenQ) (p := fun i q => q.s.size ≤ maxLen ∧ f i = [.string q.s, .int .i64 q.x, .int .i64 q.y, .int .i64 q.z, .int .i64 q.r, .int .i64 q.g, .int .i64 q.st, .int .i64 q.wd, .int .i64 q.t, .int .i64 q.slo, .int .i64 q.shi, .int .i64 q.rlo, .int .i64 q.rhi]) (fun i hi => (h4 i hi).2)
  have hget : ∀ i, i < n → ((List.range n).map g).getD i seen0 = g i := fun i hi => by simp [List.getD, hi]
  refine ⟨A, n, c, (List.range n).map g, rfl, by simp, by omega, fun e he => ?_, fun hn => ?_, hd⟩
  · obtain ⟨i, hi, rfl⟩ := List.mem_map.1 he
    have := (hg i (List.mem_range.1 hi)).1
    unfold maxLen at this
    omega
  · have hn' : 0 < n := by simpa using hn
    obtain ⟨b, off, e1, e2, e3⟩ := h5 hn'
    refine ⟨b, off, e1, e2, fun i hi => ?_⟩
    have hi' : i < n := by simpa using hi
    have ec := (hg i hi').2
    rw [hget i hi']
    exact ⟨e3 i hi' 0 _ (by rw [ec]; rfl), e3 i hi' 1 _ (by rw [ec]; rfl), e3 i hi' 2 _ (by rw [ec]; rfl), e3 i hi' 3 _ (by rw [ec]; rfl), e3 i hi' 4 _ (by rw [ec]; rfl), e3 i hi' 5 _ (by rw [ec]; rfl), e3 i hi' 6 _ (by rw [ec]; rfl), e3 i hi' 7 _ (by rw [ec]; rfl), e3 i hi' 8 _ (by rw [ec]; rfl), e3 i hi' 9 _ (by rw [ec]; rfl), e3 i hi' 10 _ (by rw [ec]; rfl), e3 i hi' 11 _ (by rw [ec]; rfl), e3 i hi' 12 _ (by rw [ec]; rfl)⟩
set_option maxRecDepth 100000 in
theorem open_sights {r : Reach} {b0 : Nat} {v : Value} {d : DataW H} {ps : List MemPlace} (hv : Value.okWide Try.prog w r b0 22 v) (h : DataW.Trod enc Try.prog w base spare held 22 v d ps) :
    ∃ (A : Option Addr) (n c : Nat) (L : List Sgt), v = .slice A n c ∧ L.length = n ∧ n ≤ maxLen ∧ (∀ s ∈ L, I64 s.x ∧ I64 s.y ∧ I64 s.l ∧ I64 s.lo ∧ I64 s.hi) ∧ SgtsH w A L := by
  obtain ⟨A, n, c, f, rfl, h2, h3, h4, h5⟩ := open_slV Try.underlying22 avSight (by decide) hv h
  haveI : Inhabited Sgt := ⟨sg0⟩
  obtain ⟨g, hg⟩ := choose_lt (α := Sgt) (p := fun i s => (I64 s.x ∧ I64 s.y ∧ I64 s.l ∧ I64 s.lo ∧ I64 s.hi) ∧ f i = [.int .i64 s.x, .int .i64 s.y, .int .i64 s.l, .int .i64 s.lo, .int .i64 s.hi]) (fun i hi => by
    obtain ⟨s, a1, a2, a3, a4, a5, a6⟩ := (h4 i hi).2
    exact ⟨s, ⟨a1, a2, a3, a4, a5⟩, a6⟩)
  have hget : ∀ i, i < n → ((List.range n).map g).getD i sg0 = g i := fun i hi => by simp [List.getD, hi]
  refine ⟨A, n, c, (List.range n).map g, rfl, by simp, by omega, fun e he => ?_, fun hn => ?_⟩
  · obtain ⟨i, hi, rfl⟩ := List.mem_map.1 he
    exact (hg i (List.mem_range.1 hi)).1
  · have hn' : 0 < n := by simpa using hn
    obtain ⟨b, off, e1, e2, e3⟩ := h5 hn'
    refine ⟨b, off, e1, e2, fun i hi => ?_⟩
    have hi' : i < n := by simpa using hi
    have ec := (hg i hi').2
    rw [hget i hi']
    exact ⟨e3 i hi' 0 _ (by rw [ec]; rfl), e3 i hi' 1 _ (by rw [ec]; rfl), e3 i hi' 2 _ (by rw [ec]; rfl), e3 i hi' 3 _ (by rw [ec]; rfl), e3 i hi' 4 _ (by rw [ec]; rfl)⟩
end
end Go.Proofs.Ytllpffkifleigaa
