/-
  The argument of TopMoved, opened: a struct of small numbers, of a slice of yes and no and of a slice of small numbers.
-/
import Derived.Test.YtidbjidcjmbnlaaTmKnown
import Derived.Test.YtidbjidcjmbnlaaOpenV
import Derived.Test.YtidbjidcjmbnlaaRows
set_option linter.unusedSimpArgs false
set_option linter.unusedVariables false
namespace Go.Proofs.Ytidbjidcjmbnlaa
open Go Go.RowKit Go.ChangeShapes Go.WideShapes Go.Deep

theorem tmU16 {n : Int} (h : (Lit.int .u16 n).wf = true) : 0 ≤ n ∧ n ≤ 65535 := by
  simp only [Lit.wf, Bool.and_eq_true, decide_eq_true_eq] at h
  exact ⟨h.1, h.2⟩
theorem tmU8 {n : Int} (h : (Lit.int .u8 n).wf = true) : 0 ≤ n ∧ n ≤ 255 := by
  simp only [Lit.wf, Bool.and_eq_true, decide_eq_true_eq] at h
  exact ⟨h.1, h.2⟩
theorem tmI8 : AllInts Try.prog 5 .u8 1 := allInts_int Try.underlying5 (by kernel_rfl)
theorem tmBool : AllV Try.prog 4 1 (fun cs => ∃ b, cs = [.bool b]) :=
  ⟨by kernel_rfl, fun H enc w base spare held n cs y h => by
    obtain ⟨b, e0, _⟩ := DataW.trod_bool Try.underlying4 h
    subst e0
    exact ⟨rfl, b, rfl⟩⟩
def boolOf (l : List Value) : Bool := match l with
  | [.bool b] => b
  | _ => false
theorem bools_of {w : World} {B n : Nat} {A : Option Addr} {f : Nat → List Value} (hf : ∀ i, i < n → (f i).length = 1 ∧ ∃ b, f i = [.bool b]) (h : Rows_ w B A n 1 f) : Bools w B A ((List.range n).map fun i => boolOf (f i)) := fun hn => by
  have hn2 : 0 < n := by simpa using hn
  obtain ⟨b, off, e, hb, hc⟩ := h hn2
  refine ⟨b, off, e, hb, fun j x hx => ?_⟩
  have hj : j < n := by
    have := (List.getElem?_eq_some_iff.1 hx).1
    simpa using this
  rw [List.getElem?_map, List.getElem?_range hj] at hx
  have e2 : boolOf (f j) = x := Option.some.inj hx
  subst e2
  obtain ⟨-, c, hfc⟩ := hf j hj
  have := hc j hj 0 (.bool c) (by rw [hfc]; rfl)
  rw [Nat.mul_one, Nat.add_zero] at this
  rw [this, hfc]
  rfl
theorem nats_of {zs : List Int} (h : ∀ z ∈ zs, 0 ≤ z ∧ z ≤ 255) : (zs.map Int.toNat).map (fun x : Nat => (x : Int)) = zs ∧ ∀ x ∈ zs.map Int.toNat, x < 256 := by
  constructor
  · rw [List.map_map]
    conv => rhs; rw [← List.map_id zs]
    refine List.map_congr_left fun z hz => ?_
    have := h z hz
    show ((z.toNat : Nat) : Int) = z
    omega
  · intro x hx
    obtain ⟨z, hz, rfl⟩ := List.mem_map.1 hx
    have := h z hz
    omega
section
variable {H : Type} {enc : TypeId × Value → H} {w : World} {base : Nat} {spare : Nat → Bool} {held : Bool}
theorem read_fieldM {P : Program} {t : TypeId} {fs : Array Field} {n : Nat} {cs : List Value} {y : DataW H × List MemPlace} (ht : P.underlying t = some (.struct fs)) (h : DataW.trod enc P w base spare held n t cs = some y) :
    cs.length = P.cellsOf t ∧ ∀ (i : Nat) (ft off sz : Nat), (fs[i]?.map fun f => (f.type, f.offset)) = some (ft, off) → P.cellsOf ft = sz → ∃ m z, DataW.trod enc P w base spare held m ft ((cs.drop off).take sz) = some z := by
  obtain ⟨xs, m, _, _, hlen, hxs, hg⟩ := DataW.trod_struct ht h
  refine ⟨hlen, fun i ft off sz hi hsz => ?_⟩
  cases hfi : fs[i]? with
  | none => rw [hfi] at hi; cases hi
  | some f =>
    rw [hfi] at hi
    have e : (f.type, f.offset) = (ft, off) := by simpa using hi
    have h1 := hg i f hfi
    have hil : i < xs.length := by rw [hxs]; exact (Array.getElem?_eq_some_iff.1 hfi).1
    rw [List.getElem?_eq_getElem hil] at h1
    injection e with e1 e2
    subst e1 e2 hsz
    exact ⟨_, _, h1⟩
/-- What is known of the argument. -/
structure MvOpen (w : World) (wd hg nA xb yb nD sec : Nat) (A D : Option Addr) (inl : List Bool) (dl : List Nat) : Prop where
  wd : wd < 256
  hg : hg < 256
  xb : xb < 256
  yb : yb < 256
  sec : sec < 65536
  lA : inl.length = nA
  mA : nA ≤ 9223372036854775807
  lD : dl.length = nD
  mD : nD ≤ 9223372036854775807
  bl : Bools w w.heap.size A inl
  dt : Ints w w.heap.size .u8 D (dl.map fun x : Nat => (x : Int))
  d8 : ∀ x ∈ dl, x < 256
set_option maxHeartbeats 1000000 in
set_option maxRecDepth 100000 in
theorem open_moved {r : Reach} {b0 : Nat} {v : Value} {d : DataW H} {ps : List MemPlace} (hv : Value.okWide Try.prog w r b0 26 v) (h : DataW.Trod enc Try.prog w base spare held 26 v d ps) :
    ∃ (wd hg nA cA xb yb nD cD sec : Nat) (A D : Option Addr) (inl : List Bool) (dl : List Nat), v = .agg (movedC wd hg A nA cA xb yb D nD cD sec) ∧ MvOpen w wd hg nA xb yb nD sec A D inl dl := by
  obtain ⟨cs, rfl, _⟩ := okWide_struct Try.underlying26 hv
  obtain ⟨fuel, hf⟩ := h
  simp only [Value.cells] at hf
  obtain ⟨hlen, hg⟩ := read_fieldM Try.underlying26 hf
  have e7 : Try.prog.cellsOf 26 = 7 := by kernel_rfl
  rw [e7] at hlen
  have c1 : Try.prog.cellsOf 22 = 1 := by kernel_rfl
  have c2 : Try.prog.cellsOf 24 = 1 := by kernel_rfl
  have c3 : Try.prog.cellsOf 23 = 1 := by kernel_rfl
  have c4 : Try.prog.cellsOf 5 = 1 := by kernel_rfl
  obtain ⟨L, rfl⟩ : ∃ L : List Value, cs = L.toArray := ⟨cs.toList, by simp⟩
  simp only at hlen hg
  obtain ⟨v0, r0, rfl, h0⟩ := len1 hlen
  obtain ⟨v1, r1, rfl, h1⟩ := len1 h0
  obtain ⟨v2, r2, rfl, h2⟩ := len1 h1
  obtain ⟨v3, r3, rfl, h3⟩ := len1 h2
  obtain ⟨v4, r4, rfl, h4⟩ := len1 h3
  obtain ⟨v5, r5, rfl, h5⟩ := len1 h4
  obtain ⟨v6, r6, rfl, h6⟩ := len1 h5
  obtain rfl := len0 h6
  obtain ⟨_, _, g0⟩ := hg 0 5 0 1 rfl c4
  obtain ⟨_, _, g1⟩ := hg 1 5 1 1 rfl c4
  obtain ⟨_, _, g2⟩ := hg 2 22 2 1 rfl c1
  obtain ⟨_, _, g3⟩ := hg 3 5 3 1 rfl c4
  obtain ⟨_, _, g4⟩ := hg 4 5 4 1 rfl c4
  obtain ⟨_, _, g5⟩ := hg 5 23 5 1 rfl c3
  obtain ⟨_, _, g6⟩ := hg 6 24 6 1 rfl c2
  simp only [List.drop_zero, List.drop_succ_cons, List.take_succ_cons, List.take_zero] at g0 g1 g2 g3 g4 g5 g6
  obtain ⟨z0, q0, _, w0⟩ := DataW.trod_int Try.underlying5 g0
  obtain ⟨z1, q1, _, w1⟩ := DataW.trod_int Try.underlying5 g1
  obtain ⟨A2, n2, k2, f2, q2, m2, M2, H2, I2⟩ := read_sliceV Try.underlying22 tmBool (by decide) g2
  obtain ⟨z3, q3, _, w3⟩ := DataW.trod_int Try.underlying5 g3
  obtain ⟨z4, q4, _, w4⟩ := DataW.trod_int Try.underlying5 g4
  obtain ⟨A5, n5, k5, z5, q5, l5, m5, M5, I5, w5⟩ := read_slice2 Try.underlying23 tmI8 (by decide) g5
  obtain ⟨z6, q6, _, w6⟩ := DataW.trod_int Try.underlying24 g6
  simp at q0 q1 q2 q3 q4 q5 q6
  subst q0 q1 q2 q3 q4 q5 q6
  have b0' := tmU8 w0
  have b1' := tmU8 w1
  have b3' := tmU8 w3
  have b4' := tmU8 w4
  have b6' := tmU16 w6
  obtain ⟨x0, rfl⟩ := Int.eq_ofNat_of_zero_le b0'.1
  obtain ⟨x1, rfl⟩ := Int.eq_ofNat_of_zero_le b1'.1
  obtain ⟨x3, rfl⟩ := Int.eq_ofNat_of_zero_le b3'.1
  obtain ⟨x4, rfl⟩ := Int.eq_ofNat_of_zero_le b4'.1
  obtain ⟨x6, rfl⟩ := Int.eq_ofNat_of_zero_le b6'.1
  obtain ⟨hz, hz8⟩ := nats_of (fun z hz => tmU8 (w5 z hz))
  have M2' : n2 ≤ 9223372036854775807 := Nat.le_trans m2 M2
  have M5' : n5 ≤ 9223372036854775807 := Nat.le_trans m5 M5
  refine ⟨x0, x1, n2, k2, x3, x4, n5, k5, x6, A2, A5, (List.range n2).map fun i => boolOf (f2 i), z5.map Int.toNat, rfl, ⟨by omega, by omega, by omega, by omega, by omega, by simp, M2', by rw [List.length_map, l5, Nat.mul_one], M5', bools_of H2 I2, by rw [hz]; exact I5, hz8⟩⟩
end
end Go.Proofs.Ytidbjidcjmbnlaa
