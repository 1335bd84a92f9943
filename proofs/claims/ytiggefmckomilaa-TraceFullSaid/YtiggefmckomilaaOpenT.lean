/-
  The law TraceTruth: the small functions of a level.
  The law TraceTruth: words and bounds.
  The arguments of the law TraceTruth, opened: levels, probes; bounds of small integers.
  The arguments of the laws about traces, opened.
-/
import Derived.Test.YtiggefmckomilaaTruthTests2
import Derived.Test.YtiggefmckomilaaTraceWorks
import Derived.Test.YtiggefmckomilaaActF
import Derived.Test.YtiggefmckomilaaRows
set_option linter.unusedSimpArgs false
set_option linter.unusedVariables false
namespace Go.Proofs.Ytiggefmckomilaa
open Go Go.RowKit

theorem Blk.c6 {w : World} {g : Nat} {t : TypeId} {a b c d e f : Value} (h : Blk w g t #[a, b, c, d, e, f]) :
    w.cell? ⟨g, 0, none⟩ = some a ∧ w.cell? ⟨g, 1, none⟩ = some b ∧ w.cell? ⟨g, 2, none⟩ = some c ∧ w.cell? ⟨g, 3, none⟩ = some d ∧ w.cell? ⟨g, 4, none⟩ = some e ∧ w.cell? ⟨g, 5, none⟩ = some f :=
  ⟨h.c 0 rfl, h.c 1 rfl, h.c 2 rfl, h.c 3 rfl, h.c 4 rfl, h.c 5 rfl⟩
def lvC (x : Lv) : Array Value := #[.int .u32 x.v, .int .u16 x.l, .int .u16 x.m, .int .u8 x.t, .int .u8 x.s, .int .u8 x.d]
theorem tmod_pos {a b : Int} (ha : 0 ≤ a) : a.tmod b = a % b := Int.tmod_eq_emod_of_nonneg ha
set_option maxHeartbeats 1000000 in
set_option maxRecDepth 100000 in
theorem lvTurn_any (x : Lv) (hx : LvOk x) (w : World) :
    Calls Try.prog 20 #[.agg (lvC x)] w fun e w' => e = .returned (.int .i64 (trn x)) ∧ Below w.heap.size w w' := by
  obtain ⟨h1, h2, h3, h4, h5, h6, t0, t1, s0, s1, d0, d1⟩ := hx
  have e1 := tmod_pos (b := 11) t0
  have e2 : trn x = x.t % 11 - 5 := rfl
  unfold lvC
  rw [e2]
  go_enter Try.func20, Try.ntmps20
  go_wp2
  go_ret
  refine ⟨rfl, ?_⟩
  repeat (first | exact Below.refl _ _ | (refine Below.setCell ?_ (by first | omega | (simp; done) | (simp; omega)) _) | (refine Below.alloc ?_ (by first | omega | (simp; done) | (simp; omega)) _) | (refine below_drewN ?_ _))
set_option maxHeartbeats 1000000 in
set_option maxRecDepth 100000 in
theorem lvDays_any (x : Lv) (hx : LvOk x) (w : World) :
    Calls Try.prog 19 #[.agg (lvC x)] w fun e w' => e = .returned (.int .i64 (dys x)) ∧ Below w.heap.size w w' := by
  obtain ⟨h1, h2, h3, h4, h5, h6, t0, t1, s0, s1, d0, d1⟩ := hx
  have e1 := tmod_pos (b := 50) d0
  have e2 : dys x = x.d % 50 := rfl
  unfold lvC
  rw [e2]
  go_enter Try.func19, Try.ntmps19
  go_wp2
  go_ret
  refine ⟨rfl, ?_⟩
  repeat (first | exact Below.refl _ _ | (refine Below.setCell ?_ (by first | omega | (simp; done) | (simp; omega)) _) | (refine Below.alloc ?_ (by first | omega | (simp; done) | (simp; omega)) _) | (refine below_drewN ?_ _))
set_option maxHeartbeats 1000000 in
set_option maxRecDepth 100000 in
theorem lvDrift_any (x : Lv) (hx : LvOk x) (w : World) :
    Calls Try.prog 18 #[.agg (lvC x)] w fun e w' => e = .returned (.int .i64 (drf x)) ∧ Below w.heap.size w w' := by
  have ht := fun W => lvTurn_any x hx W
  obtain ⟨h1, h2, h3, h4, h5, h6, t0, t1, s0, s1, d0, d1⟩ := hx
  have hb := trn_bd x
  have e2 : drf x = max (trn x) (-(trn x)) + x.s := rfl
  rw [e2]
  generalize trn x = tn at *
  obtain ⟨m, hm⟩ : ∃ m : Int, max tn (-tn) = m := ⟨_, rfl⟩
  have hmb : m ≤ 5 ∧ 0 ≤ m := by omega
  rw [hm]
  unfold lvC at *
  have Ht := hide ht
  clear ht
  go_enter Try.func18, Try.ntmps18
  have HB := hide (Below.refl w.heap.size w)
  go_wp2_with fail
  refine code_world fun W hW => ?_
  have bq0 : Blk W w.heap.size 32 #[.int .u32 x.v, .int .u16 x.l, .int .u16 x.m, .int .u8 x.t, .int .u8 x.s, .int .u8 x.d] := by rw [hW]; exact Blk.new _ _ _
  have LW : Later w W := by rw [hW]; exact ((Below.refl _ _).alloc (Nat.le_refl _) _)
  have szW : W.heap.size = w.heap.size + 1 := by rw [hW]; simp
  clear hW
  replace HB := hide (onward HB.out LW)
  have Hx := hide bq0
  clear bq0 LW szW
  obtain ⟨x0, x1, x2, x3, x4, x5⟩ := Hx.out.c6
  have ltx := Hx.out.lt
  apply wp_region_L (w0 := W) [[], [], [], [], [], [], [], [], [], [], []] [true, true, true, true, true, true, true, true, true, true, true] [] (fun ixq y => match ixq with  | _ => undef) (fun ixq x F wq => match ixq with  | _ => True) (fun a x => a) (by kernel_rfl) (by kernel_rfl) (fun _ => rfl) [4, 6] (by kernel_rfl)
  · intro x D hD
    have hne := hD.some
    have k0 := liftB hD x0 (by first | assumption | omega)
    have k1 := liftB hD x1 (by first | assumption | omega)
    have k2 := liftB hD x2 (by first | assumption | omega)
    have k3 := liftB hD x3 (by first | assumption | omega)
    have k4 := liftB hD x4 (by first | assumption | omega)
    have k5 := liftB hD x5 (by first | assumption | omega)
    simp only [takeOps, Act.put, List.setIfInBounds_toArray, List.set_cons_succ, List.set_cons_zero]
    repeat (go_big_quiet_step ((go_at_call 20; exact calls_later hD _ (Ht.out _))))
    exact wpQuiet_nil rfl
  · intro d hd x x'
    simp only [List.mem_cons, List.not_mem_nil, or_false] at hd
    rcases hd with rfl | rfl
    all_goals rfl
  · exact trivial
  · exact trivial
  intro xx w2 F hL hlv1
  clear hlv1
  replace HB := hide (onward HB.out hL)
  replace Hx := hide (blk_later Hx.out hL)
  clear hL
  go_wp2
  go_ret
  exact ⟨rfl, HB.out⟩
end Go.Proofs.Ytiggefmckomilaa
namespace Go.Proofs.Ytiggefmckomilaa
open Go Go.RowKit

def lvC3 (lv : Nat → Lv) : Array Value := #[.int .u32 (lv 0).v, .int .u16 (lv 0).l, .int .u16 (lv 0).m, .int .u8 (lv 0).t, .int .u8 (lv 0).s, .int .u8 (lv 0).d, .int .u32 (lv 1).v, .int .u16 (lv 1).l, .int .u16 (lv 1).m, .int .u8 (lv 1).t, .int .u8 (lv 1).s, .int .u8 (lv 1).d, .int .u32 (lv 2).v, .int .u16 (lv 2).l, .int .u16 (lv 2).m, .int .u8 (lv 2).t, .int .u8 (lv 2).s, .int .u8 (lv 2).d]
theorem lvC3_at (lv : Nat → Lv) {k : Nat} (hk : k < 3) : (lvC3 lv)[k * 6]? = some (.int .u32 (lv k).v) ∧ (lvC3 lv)[k * 6 + 1]? = some (.int .u16 (lv k).l) ∧ (lvC3 lv)[k * 6 + 2]? = some (.int .u16 (lv k).m) ∧ (lvC3 lv)[k * 6 + 3]? = some (.int .u8 (lv k).t) ∧ (lvC3 lv)[k * 6 + 4]? = some (.int .u8 (lv k).s) ∧ (lvC3 lv)[k * 6 + 5]? = some (.int .u8 (lv k).d) := by
  have : k = 0 ∨ k = 1 ∨ k = 2 := by omega
  rcases this with rfl | rfl | rfl <;> exact ⟨rfl, rfl, rfl, rfl, rfl, rfl⟩
def nmsC : Array Value := #[.string ⟨#[97]⟩, .string ⟨#[98]⟩, .string ⟨#[99]⟩]
theorem nmsC_at {k : Nat} (hk : k < 3) : nmsC[k]? = some (.string (nmN k)) := by
  have : k = 0 ∨ k = 1 ∨ k = 2 := by omega
  rcases this with rfl | rfl | rfl <;> rfl
def pbL (x : Pb) : List Value := [.int .u8 x.k, .int .u8 x.d, .int .u16 x.s]
structure PbOk (x : Pb) : Prop where
  k0 : 0 ≤ x.k
  k1 : x.k ≤ 255
  d0 : 0 ≤ x.d
  d1 : x.d ≤ 255
  s0 : 0 ≤ x.s
  s1 : x.s ≤ 65535
/-- The rows of the law: days, numerators, denominators. -/
def dayV (lv : Nat → Lv) (k : Nat) : List Value := (List.range k).map fun i => .int .i64 (dayN lv i)
def numVN (lv : Nat → Lv) (k : Nat) : List Value := (List.range k).map fun i => .int .i64 (numN lv i)
def denV (k : Nat) : List Value := (List.range k).map fun i => .int .i64 (denN i)

theorem tmod_bd10 (a : Int) : -9 ≤ a.tmod 10 ∧ a.tmod 10 ≤ 9 := by
  rcases Int.le_total 0 a with h | h
  · rw [tmod_pos h]; omega
  · have e : a.tmod 10 = -((-a).tmod 10) := by rw [Int.neg_tmod]; omega
    rw [e, tmod_pos (by omega)]; omega
def dyP (lv : Nat → Lv) : Nat → Int
  | 0 => 0
  | k + 1 => dayN lv k
theorem den_le {k : Nat} (hk : k < 3) : denN k ≤ 1000000 := by
  have : k = 0 ∨ k = 1 ∨ k = 2 := by omega
  rcases this with rfl | rfl | rfl <;> decide
theorem num_bd (lv : Nat → Lv) (hlv : ∀ k, LvOk (lv k)) {k : Nat} (hk : k < 3) : 0 ≤ numN lv k ∧ numN lv k ≤ 2048417000000 := by
  have h := held_k lv hlv hk
  have h1 := h.low
  have h2 := h.up
  have h3 := den_le hk
  have h4 := den_pos k
  omega
theorem dayV_succ (lv : Nat → Lv) (k : Nat) : dayV lv (k + 1) = dayV lv k ++ [.int .i64 (dayN lv k)] := by unfold dayV; rw [List.range_succ]; simp
theorem numVN_succ (lv : Nat → Lv) (k : Nat) : numVN lv (k + 1) = numVN lv k ++ [.int .i64 (numN lv k)] := by unfold numVN; rw [List.range_succ]; simp
theorem denV_succ (k : Nat) : denV (k + 1) = denV k ++ [.int .i64 (denN k)] := by unfold denV; rw [List.range_succ]; simp
theorem dayV_get (lv : Nat → Lv) {k j : Nat} (h : j < k) : (dayV lv k)[j]? = some (.int .i64 (dayN lv j)) := by simp [dayV, h]
theorem numVN_get (lv : Nat → Lv) {k j : Nat} (h : j < k) : (numVN lv k)[j]? = some (.int .i64 (numN lv j)) := by simp [numVN, h]
theorem denV_get {k j : Nat} (h : j < k) : (denV k)[j]? = some (.int .i64 (denN j)) := by simp [denV, h]
end Go.Proofs.Ytiggefmckomilaa
namespace Go.Proofs.Ytiggefmckomilaa
open Go Go.RowKit Go.ChangeShapes Go.WideShapes Go.Deep

theorem wfT_u32 {n : Int} (h : (Lit.int .u32 n).wf = true) : 0 ≤ n ∧ n ≤ 4294967295 := by
  simp only [Lit.wf, Bool.and_eq_true, decide_eq_true_eq] at h
  exact ⟨h.1, h.2⟩
theorem wfT_u16 {n : Int} (h : (Lit.int .u16 n).wf = true) : 0 ≤ n ∧ n ≤ 65535 := by
  simp only [Lit.wf, Bool.and_eq_true, decide_eq_true_eq] at h
  exact ⟨h.1, h.2⟩
theorem wfT_u8 {n : Int} (h : (Lit.int .u8 n).wf = true) : 0 ≤ n ∧ n ≤ 255 := by
  simp only [Lit.wf, Bool.and_eq_true, decide_eq_true_eq] at h
  exact ⟨h.1, h.2⟩
theorem wfT_i8 {n : Int} (h : (Lit.int .i8 n).wf = true) : -128 ≤ n ∧ n ≤ 127 := by
  simp only [Lit.wf, Bool.and_eq_true, decide_eq_true_eq] at h
  exact ⟨h.1, h.2⟩
theorem avU32 : AllV Try.prog 29 1 (fun cs => ∃ z, cs = [.int .u32 z] ∧ (Lit.int .u32 z).wf = true) := allV_int Try.underlying29 (by kernel_rfl)
theorem avU16 : AllV Try.prog 30 1 (fun cs => ∃ z, cs = [.int .u16 z] ∧ (Lit.int .u16 z).wf = true) := allV_int Try.underlying30 (by kernel_rfl)
theorem avU8 : AllV Try.prog 5 1 (fun cs => ∃ z, cs = [.int .u8 z] ∧ (Lit.int .u8 z).wf = true) := allV_int Try.underlying5 (by kernel_rfl)
set_option maxRecDepth 100000 in
theorem avLevel : AllV Try.prog 32 6 (fun cs => ∃ x : Lv, LvOk x ∧ cs = (lvC x).toList) := by
  refine ⟨by kernel_rfl, fun H enc w base spare held n cs y h => ?_⟩
  obtain ⟨hl, hf⟩ := read_structV Try.underlying32 (by kernel_rfl : Try.prog.cellsOf 32 = 6) h
  refine ⟨hl, ?_⟩
  obtain ⟨c0, r0, rfl, h0⟩ := len1 hl
  obtain ⟨c1, r1, rfl, h1⟩ := len1 h0
  obtain ⟨c2, r2, rfl, h2⟩ := len1 h1
  obtain ⟨c3, r3, rfl, h3⟩ := len1 h2
  obtain ⟨c4, r4, rfl, h4⟩ := len1 h3
  obtain ⟨c5, r5, rfl, h5⟩ := len1 h4
  obtain rfl := len0 h5
  obtain ⟨z0, e0, w0⟩ := hf 0 _ 1 _ rfl avU32
  obtain ⟨z1, e1, w1⟩ := hf 1 _ 1 _ rfl avU16
  obtain ⟨z2, e2, w2⟩ := hf 2 _ 1 _ rfl avU16
  obtain ⟨z3, e3, w3⟩ := hf 3 _ 1 _ rfl avU8
  obtain ⟨z4, e4, w4⟩ := hf 4 _ 1 _ rfl avU8
  obtain ⟨z5, e5, w5⟩ := hf 5 _ 1 _ rfl avU8
  simp at e0 e1 e2 e3 e4 e5
  subst e0 e1 e2 e3 e4 e5
  exact ⟨⟨z0, z1, z2, z3, z4, z5⟩, ⟨(wfT_u32 w0).1, (wfT_u32 w0).2, (wfT_u16 w1).1, (wfT_u16 w1).2, (wfT_u16 w2).1, (wfT_u16 w2).2, (wfT_u8 w3).1, (wfT_u8 w3).2, (wfT_u8 w4).1, (wfT_u8 w4).2, (wfT_u8 w5).1, (wfT_u8 w5).2⟩, rfl⟩
set_option maxRecDepth 100000 in
theorem avProbe : AllV Try.prog 47 3 (fun cs => ∃ x : Pb, PbOk x ∧ cs = pbL x) := by
  refine ⟨by kernel_rfl, fun H enc w base spare held n cs y h => ?_⟩
  obtain ⟨hl, hf⟩ := read_structV Try.underlying47 (by kernel_rfl : Try.prog.cellsOf 47 = 3) h
  refine ⟨hl, ?_⟩
  obtain ⟨c0, r0, rfl, h0⟩ := len1 hl
  obtain ⟨c1, r1, rfl, h1⟩ := len1 h0
  obtain ⟨c2, r2, rfl, h2⟩ := len1 h1
  obtain rfl := len0 h2
  obtain ⟨z0, e0, w0⟩ := hf 0 _ 1 _ rfl avU8
  obtain ⟨z1, e1, w1⟩ := hf 1 _ 1 _ rfl avU8
  obtain ⟨z2, e2, w2⟩ := hf 2 _ 1 _ rfl avU16
  simp at e0 e1 e2
  subst e0 e1 e2
  exact ⟨⟨z0, z1, z2⟩, ⟨(wfT_u8 w0).1, (wfT_u8 w0).2, (wfT_u8 w1).1, (wfT_u8 w1).2, (wfT_u16 w2).1, (wfT_u16 w2).2⟩, rfl⟩

section
variable {H : Type} {enc : TypeId × Value → H} {w : World} {base : Nat} {spare : Nat → Bool} {held : Bool}
set_option maxRecDepth 100000 in
theorem open_levels {r : Reach} {b0 : Nat} {v : Value} {d : DataW H} {ps : List MemPlace} (hv : Value.okWide Try.prog w r b0 33 v) (h : DataW.Trod enc Try.prog w base spare held 33 v d ps) :
    ∃ lv : Nat → Lv, v = .agg (lvC3 lv) ∧ ∀ k, LvOk (lv k) := by
  obtain ⟨cs, rfl, hsz⟩ := okWide_array Try.underlying33 hv
  have e18 : Try.prog.cellsOf 33 = 18 := by kernel_rfl
  rw [e18] at hsz
  obtain ⟨fuel, hf⟩ := h
  have g := read_arrayV Try.underlying33 avLevel hf
  simp only [Value.cells] at g
  obtain ⟨x0, k0, e0⟩ := g 0 (by decide)
  obtain ⟨x1, k1, e1⟩ := g 1 (by decide)
  obtain ⟨x2, k2, e2⟩ := g 2 (by decide)
  refine ⟨fun k => match k with | 0 => x0 | 1 => x1 | _ => x2, ?_, fun k => ?_⟩
  · have hl : cs.toList.length = 18 := by simpa using hsz
    have e : cs.toList = (cs.toList.drop 0).take 6 ++ ((cs.toList.drop 6).take 6 ++ (cs.toList.drop 12).take 6) := by
      conv => lhs; rw [← List.take_append_drop 6 cs.toList]
      rw [List.drop_zero]
      congr 1
      conv => lhs; rw [← List.take_append_drop 6 (cs.toList.drop 6)]
      rw [List.drop_drop]
      congr 1
      rw [List.take_of_length_le (by rw [List.length_drop]; omega)]
    have e' : (cs.toList.drop 0).take 6 = (lvC x0).toList := by simpa using e0
    have e1' : (cs.toList.drop 6).take 6 = (lvC x1).toList := by simpa using e1
    have e2' : (cs.toList.drop 12).take 6 = (lvC x2).toList := by simpa using e2
    rw [e', e1', e2'] at e
    have : cs = lvC3 (fun k => match k with | 0 => x0 | 1 => x1 | _ => x2) := Array.toList_inj.1 e
    rw [this]
  · match k with
    | 0 => exact k0
    | 1 => exact k1
    | k + 2 => exact k2
set_option maxRecDepth 100000 in
theorem open_probes {r : Reach} {b0 : Nat} {v : Value} {d : DataW H} {ps : List MemPlace} (hv : Value.okWide Try.prog w r b0 34 v) (h : DataW.Trod enc Try.prog w base spare held 34 v d ps) :
    ∃ (A : Option Addr) (n c : Nat) (pb : Nat → Pb), v = .slice A n c ∧ n ≤ maxLen ∧ Rows_ w w.heap.size A n 3 (fun i => pbL (pb i)) ∧ ∀ i, PbOk (pb i) := by
  obtain ⟨A, n, c, f, h1, h2, h3, h4, h5⟩ := open_slV Try.underlying34 avProbe (by decide) hv h
  have z : PbOk ⟨0, 0, 0⟩ := by constructor <;> decide
  have ex : ∀ i, ∃ x : Pb, PbOk x ∧ (i < n → f i = pbL x) := fun i => by
    by_cases hi : i < n
    · obtain ⟨x, hx, e⟩ := (h4 i hi).2
      exact ⟨x, hx, fun _ => e⟩
    · exact ⟨⟨0, 0, 0⟩, z, fun h => absurd h hi⟩
  refine ⟨A, n, c, fun i => Classical.choose (ex i), h1, Nat.le_trans h2 h3, fun hn => ?_, fun i => (Classical.choose_spec (ex i)).1⟩
  obtain ⟨b, off, e, hl, hc⟩ := h5 hn
  exact ⟨b, off, e, hl, fun i hi j v hv => hc i hi j v (by rw [(Classical.choose_spec (ex i)).2 hi]; exact hv)⟩
end
end Go.Proofs.Ytiggefmckomilaa
namespace Go.Proofs.Ytiggefmckomilaa
open Go Go.RowKit Go.ChangeShapes Go.WideShapes Go.Deep

section
variable {H : Type} {enc : TypeId × Value → H} {w : World} {base : Nat} {spare : Nat → Bool} {held : Bool}
theorem aiInt : AllInts Try.prog 3 .i64 1 := allInts_int Try.underlying3 (by kernel_rfl)
theorem aiSpan : AllInts Try.prog 23 .i64 2 := allInts_struct Try.underlying23 (by kernel_rfl) (fun c hc => by
  match c, hc with
  | 0, _ => exact ⟨0, _, 1, rfl, aiInt, by simp, by simp⟩
  | 1, _ => exact ⟨1, _, 1, rfl, aiInt, by simp, by simp⟩)
set_option maxRecDepth 100000 in
theorem open_span {r : Reach} {b0 : Nat} {v : Value} {d : DataW H} {ps : List MemPlace} (hv : Value.okWide Try.prog w r b0 23 v) (h : DataW.Trod enc Try.prog w base spare held 23 v d ps) :
    ∃ a b : Int, v = .agg #[.int .i64 a, .int .i64 b] := by
  obtain ⟨zs, h1, h2, _⟩ := open_struct Try.underlying23 aiSpan hv h
  match zs, h2 with
  | [a, b], _ => exact ⟨a, b, h1⟩
end
end Go.Proofs.Ytiggefmckomilaa
