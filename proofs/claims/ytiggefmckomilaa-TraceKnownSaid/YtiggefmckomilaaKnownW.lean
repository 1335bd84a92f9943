/-
  Two lists are equal: names, numbers.
  Quotients of the reference, rounded down and up: its contracts.
  Corrected powers: trace's and the reference's.
  The chapter's examples of books: what they answer.
  The law TraceKnown returns true.
-/
import Derived.Test.YtiggefmckomilaaTraceDep
import Derived.BigQuiet
import Derived.Test.YtiggefmckomilaaProg
import Derived.Test.YtiggefmckomilaaShelf
import Derived.Test.YtiggefmckomilaaMapV
import Derived.Test.YtiggefmckomilaaActF
set_option linter.unusedSimpArgs false
set_option linter.unusedVariables false
namespace Go.Proofs.Ytiggefmckomilaa
open Go Go.RowKit

/-- A slice that reads as some values, below a block. -/
def ListAt (w : World) (B : Nat) (A : Option Addr) (q : List Value) : Prop := 0 < q.length → ∃ b off, A = some ⟨b, off, none⟩ ∧ b < B ∧ ∀ (i : Nat) (v : Value), q[i]? = some v → w.cell? ⟨b, off + i, none⟩ = some v
theorem ListAt.later {w w' : World} {B B' : Nat} {A : Option Addr} {q : List Value} (h : ListAt w B A q) (hb : Below B w w') (hB : B ≤ B') : ListAt w' B' A q := fun hn => by
  obtain ⟨b, off, e, hl, hc⟩ := h hn
  exact ⟨b, off, e, by omega, fun i s hs => (hb.cell hl).trans (hc i s hs)⟩
theorem ListAt.blk {w : World} {g : Nat} {t : TypeId} {cs : Array Value} {q : List Value} (h : Blk w g t cs) (hq : cs.toList = q) : ListAt w w.heap.size (some ⟨g, 0, none⟩) q := fun _ => by
  subst hq
  exact ⟨g, 0, rfl, h.lt, fun i v hv => by rw [Nat.zero_add]; exact h.c i (by rw [← hv]; exact (Array.getElem?_toList).symm)⟩
theorem ListAt.own {w : World} {base n c : Nat} {t : TypeId} {A : Option Addr} {xs : List Value} (h : w.ownsRow base t 1 (.slice A n c) n xs) (hn : xs.length = n) : ListAt w w.heap.size A xs := fun h0 => by
  obtain ⟨b, cur, rfl, -, hb, -, -, hc⟩ := row_blk h (by omega)
  exact ⟨b, 0, rfl, hb.lt, fun i v hv => by rw [Nat.zero_add]; exact hb.c i (hc i v hv)⟩
set_option maxHeartbeats 1000000 in
set_option maxRecDepth 100000 in
theorem texts_any (A B : Option Addr) (n m c d : Nat) (q : List ByteArray) (w : World) (hn : q.length = n) (hm : q.length = m) (hmax : n ≤ 1000) (h : ListAt w w.heap.size A (strV q)) (h2 : ListAt w w.heap.size B (strV q)) :
    Calls Try.prog 43 #[.slice A n c, .slice B m d] w fun e w' => e = .returned (.bool true) ∧ Below w.heap.size w w' := by
  subst hm
  subst hn
  have hln : (strV q).length = q.length := by unfold strV; simp
  obtain ⟨n, hN⟩ : ∃ n, q.length = n := ⟨_, rfl⟩
  rw [hN] at hmax hln ⊢
  have H := hide h
  have H2 := hide h2
  have Hln := hide hln
  have HN := hide hN
  clear h h2 hln hN
  go_enter Try.func43, Try.ntmps43
  go_wp2_with fail
  go_loopw [5] (fun i wr => ∃ k : Nat, k ≤ n ∧ i = .int .i64 k ∧ Below w.heap.size w wr) (fun i _ => n - (intOf i).toNat)
  case atStart => exact ⟨0, by omega, rfl, Below.refl _ _⟩
  case round =>
    obtain ⟨k, hk, rfl, hB⟩ := hrel
    have HB := hide hB
    clear hB
    by_cases hlt : k < n
    · obtain ⟨b, off, rfl, hb, hc⟩ := (H.out.later HB.out HB.out.size) (by have := Hln.out; omega)
      obtain ⟨b2, off2, rfl, hb2, hc2⟩ := (H2.out.later HB.out HB.out.size) (by have := Hln.out; omega)
      have hlt2 : (k : Int) < n := by omega
      obtain ⟨y, hy⟩ : ∃ y, q[k]? = some y := ⟨_, List.getElem?_eq_getElem (by have := HN.out; omega)⟩
      have hy2 : (strV q)[k]? = some (.string y) := by unfold strV; rw [List.getElem?_map, hy]; rfl
      have c0 := hc k _ hy2
      have c2 := hc2 k _ hy2
      clear hc hc2 hy hy2
      have heq : (y.toList == y.toList) = true := beq_self_eq_true _
      go_wp2_with fail
      go_quiet (fail)
      have hL : Below wr.heap.size wr (wr.drewN nq) := below_drewN (Below.refl _ _) _
      generalize (wr.drewN nq : World) = w2 at hL ⊢
      clear c0 c2 hb hb2
      replace HB := hide (onward HB.out hL)
      clear hL
      go_wp2_with fail
      go_roundw
      case rel => exact ⟨k + 1, by omega, by go_num, HB.out⟩
      case measure => simp [intOf] <;> omega
    · have hkn : k = n := by omega
      subst hkn
      go_wp2
      go_ret
      exact ⟨rfl, HB.out⟩
set_option maxHeartbeats 1000000 in
set_option maxRecDepth 100000 in
theorem ints_any (A B : Option Addr) (n m c d : Nat) (q : List Value) (w : World) (hn : q.length = n) (hm : q.length = m) (hmax : n ≤ 1000) (hq : ∀ v ∈ q, ∃ z, v = .int .i64 z) (h : ListAt w w.heap.size A q) (h2 : ListAt w w.heap.size B q) :
    Calls Try.prog 44 #[.slice A n c, .slice B m d] w fun e w' => e = .returned (.bool true) ∧ Below w.heap.size w w' := by
  subst hm
  subst hn
  obtain ⟨n, hN⟩ : ∃ n, q.length = n := ⟨_, rfl⟩
  rw [hN] at hmax ⊢
  have H := hide h
  have H2 := hide h2
  have HN := hide hN
  have Hq := hide hq
  clear h h2 hN hq
  go_enter Try.func44, Try.ntmps44
  go_wp2_with fail
  go_loopw [5] (fun i wr => ∃ k : Nat, k ≤ n ∧ i = .int .i64 k ∧ Below w.heap.size w wr) (fun i _ => n - (intOf i).toNat)
  case atStart => exact ⟨0, by omega, rfl, Below.refl _ _⟩
  case round =>
    obtain ⟨k, hk, rfl, hB⟩ := hrel
    have HB := hide hB
    clear hB
    by_cases hlt : k < n
    · obtain ⟨b, off, rfl, hb, hc⟩ := (H.out.later HB.out HB.out.size) (by have := HN.out; omega)
      obtain ⟨b2, off2, rfl, hb2, hc2⟩ := (H2.out.later HB.out HB.out.size) (by have := HN.out; omega)
      have hlt2 : (k : Int) < n := by omega
      obtain ⟨y, hy⟩ : ∃ y, q[k]? = some y := ⟨_, List.getElem?_eq_getElem (by have := HN.out; omega)⟩
      obtain ⟨z, rfl⟩ := Hq.out _ (List.mem_of_getElem? hy)
      have c0 := hc k _ hy
      have c2 := hc2 k _ hy
      clear hc hc2 hy
      go_wp2_with fail
      go_quiet (fail)
      have hL : Below wr.heap.size wr (wr.drewN nq) := below_drewN (Below.refl _ _) _
      generalize (wr.drewN nq : World) = w2 at hL ⊢
      clear c0 c2 hb hb2
      replace HB := hide (onward HB.out hL)
      clear hL
      go_wp2_with fail
      go_roundw
      case rel => exact ⟨k + 1, by omega, by go_num, HB.out⟩
      case measure => simp [intOf] <;> omega
    · have hkn : k = n := by omega
      subst hkn
      go_wp2
      go_ret
      exact ⟨rfl, HB.out⟩
end Go.Proofs.Ytiggefmckomilaa
namespace Go.Proofs.Ytiggefmckomilaa
open Go.RowKit

theorem Down_any (a b : Int) (w : World) (ha1 : -4611686018427387903 ≤ a) (hb : 1 ≤ b) (ha2 : a ≤ 4611686018427387903) (_hb2 : b ≤ 4611686018427387903) :
    Calls Try.prog 56 #[.int .i64 a, .int .i64 b] w fun e w' => e = .returned (.int .i64 (a / b)) ∧ w = w' := by
  have hq := tdiv_floor (a := a) (b := b) (by omega)
  by_cases ha : 0 ≤ a
  · have h1 : 0 ≤ a / b := Int.ediv_nonneg ha (by omega)
    have h2 : a / b ≤ a := Int.ediv_le_self b ha
    have h3 : 0 ≤ a % b := Int.emod_nonneg _ (by omega)
    clear hq
    go_enter Try.func56, Try.ntmps56
    go_wp2
    go_ret
    exact ⟨rfl, rfl⟩
  · have h2 : -a / b ≤ -a := Int.ediv_le_self b (by omega)
    have h3 : 0 ≤ -a / b := Int.ediv_nonneg (by omega) (by omega)
    have e1 : a.tdiv b = -(-a / b) := by rw [← Int.neg_neg a, Int.neg_tdiv, Int.neg_neg, Int.tdiv_eq_ediv_of_nonneg (by omega)]
    have h4 : -4611686018427387903 ≤ a.tdiv b := by omega
    have h5 : a.tdiv b ≤ 0 := by omega
    clear e1 h2 h3
    have Hq := hide hq
    clear hq
    go_enter Try.func56, Try.ntmps56
    go_wp2
    all_goals
      go_ret
      exact ⟨ret_int (by rw [Hq.out]; first | rw [if_pos (by assumption)] | rw [if_neg (by omega)]), rfl⟩

theorem Up_any (a b : Int) (w : World) (ha1 : -4611686018427387903 ≤ a) (hb : 1 ≤ b) (ha2 : a ≤ 4611686018427387903) (hb2 : b ≤ 4611686018427387903) :
    Calls Try.prog 57 #[.int .i64 a, .int .i64 b] w fun e w' => e = .returned (.int .i64 (cdiv a b)) ∧ w = w' := by
  have h1 : -4611686018427387903 ≤ -a / b ∧ -a / b ≤ 4611686018427387903 := by
    constructor
    · have := (Int.le_ediv_iff_mul_le (a := -4611686018427387903) (b := -a) (c := b) (by omega)).2 (by omega)
      exact this
    · by_cases h : 0 ≤ -a
      · have := Int.ediv_le_self b h; omega
      · have : -a / b ≤ 0 := by
          have := Int.ediv_lt_of_lt_mul (a := -a) (b := 1) (c := b) (by omega) (by omega)
          omega
        omega
  obtain ⟨h2, h3⟩ := h1
  go_enter Try.func57, Try.ntmps57
  go_wp2_with (go_at_call 56; refine (Down_any _ _ _ (by omega) hb (by omega) hb2).mono ?_; rintro e w' ⟨rfl, rfl⟩)
  go_ret
  exact ⟨rfl, rfl⟩
end Go.Proofs.Ytiggefmckomilaa
namespace Go.Proofs.Ytiggefmckomilaa
open Go Go.RowKit

theorem RefValid_any (a b lo hi : Int) (w : World) :
    Calls Try.prog 55 #[.agg #[.int .i64 a, .int .i64 b], .int .i64 lo, .int .i64 hi] w fun e w' => e = .returned (.bool (inS a b lo hi)) ∧ Below w.heap.size w w' := by
  by_cases h1 : a ≤ b <;> by_cases h2 : lo ≤ a <;> by_cases h3 : b ≤ hi
  all_goals
    go_enter Try.func55, Try.ntmps55
    go_wp2
    go_ret
    exact ⟨by simp [inS, *], (Below.refl _ _).alloc (Nat.le_refl _) _⟩
def correctR (p g : Int × Int) : (Int × Int) × Int :=
  if (inS p.1 p.2 0 1073741824 && inS g.1 g.2 1 1000000) = true then ((min 1073741824 (1000 * p.1 / g.2), min 1073741824 (upD (1000 * p.2) g.1)), 0) else ((0, 0), 3)
def corrV (r : (Int × Int) × Int) : Value := .tuple #[.agg #[.int .i64 r.1.1, .int .i64 r.1.2], .int .i64 r.2]
theorem upD_cdiv {a b : Int} (h : 0 < b) : upD a b = cdiv a b := (cdiv_eq h).symm

set_option maxHeartbeats 1000000 in
set_option maxRecDepth 100000 in
theorem Correct_any (p1 p2 g1 g2 : Int) (w : World) :
    Calls Try.prog 13 #[.agg #[.int .i64 p1, .int .i64 p2], .agg #[.int .i64 g1, .int .i64 g2]] w fun e w' => e = .returned (corrV (correctR (p1, p2) (g1, g2))) ∧ Below w.heap.size w w' := by
  have hR : correctR (p1, p2) (g1, g2) = if (inS p1 p2 0 1073741824 && inS g1 g2 1 1000000) = true then ((min 1073741824 (1000 * p1 / g2), min 1073741824 (upD (1000 * p2) g1)), 0) else ((0, 0), 3) := rfl
  generalize correctR (p1, p2) (g1, g2) = r at *
  by_cases h1 : inS p1 p2 0 1073741824 = true
  · by_cases h2 : inS g1 g2 1 1000000 = true
    · rw [if_pos (by rw [h1, h2]; rfl)] at hR
      obtain ⟨a1, a2, a3⟩ := inS_iff.1 h1
      obtain ⟨b1, b2, b3⟩ := inS_iff.1 h2
      have k1 : 0 ≤ 1000 * p1 / g2 := Int.ediv_nonneg (by omega) (by omega)
      have k2 : 1000 * p1 / g2 ≤ 1000 * p1 := Int.ediv_le_self _ (by omega)
      have hu := fun W => up_any (1000 * p2) g1 W (by omega) (by omega) (by omega) (by omega)
      have hu2 := fun W => Up_any (1000 * p2) g1 W (by omega) (by omega) (by omega) (by omega)
      have hd := fun W => Down_any (1000 * p1) g2 W (by omega) (by omega) (by omega) (by omega)
      rw [← upD_cdiv (by omega)] at hu2
      obtain ⟨u, hue⟩ : ∃ u, upD (1000 * p2) g1 = u := ⟨_, rfl⟩
      rw [hue] at hu hu2 hR
      obtain ⟨n1, hn1⟩ : ∃ n1, min 1073741824 (1000 * p1 / g2) = n1 := ⟨_, rfl⟩
      obtain ⟨n2, hn2⟩ : ∃ n2, min 1073741824 u = n2 := ⟨_, rfl⟩
      rw [hn1, hn2] at hR
      have hn1' : (if 1000 * p1 / g2 < 1073741824 then 1000 * p1 / g2 else 1073741824) = n1 := by rw [← hn1]; split <;> omega
      have hn2' : (if u < 1073741824 then u else 1073741824) = n2 := by rw [← hn2]; split <;> omega
      clear hue
      have Hu := hide hu
      have Hu2 := hide hu2
      have Hd := hide hd
      have HR := hide hR
      clear hu hu2 hd hR
      go_enter Try.func13, Try.ntmps13
      have HB := hide (Below.refl w.heap.size w)
      go_wp2_with fail
      refine at_world fun w1 hW => ?_
      have bq0 : Blk w1 w.heap.size 23 #[.int .i64 p1, .int .i64 p2] := by rw [hW]; exact ((Blk.new _ _ _).alloc _).alloc _
      have bq1 : Blk w1 (w.heap.size + 1) 23 #[.int .i64 g1, .int .i64 g2] := by rw [hW]; exact (blk_new_at (by simp)).alloc _
      have bq2 : Blk w1 (w.heap.size + 2) 23 #[.int .i64 0, .int .i64 0] := by rw [hW]; exact blk_new_at (by simp)
      have LW : Later w w1 := by rw [hW]; exact ((((Below.refl _ _).alloc (Nat.le_refl _) _).alloc (by simp; try omega) _).alloc (by simp; try omega) _)
      have szW : w1.heap.size = w.heap.size + 3 := by rw [hW]; simp
      clear hW
      replace HB := hide (onward HB.out LW)
      have Hp := hide bq0
      have Hg := hide bq1
      have Ho := hide bq2
      clear bq0 bq1 bq2 LW szW
      refine (inside_any _ _ _ _ _).mono ?_
      rintro e w2 ⟨rfl, hb⟩
      replace HB := hide (onward HB.out hb)
      replace Hp := hide (blk_later Hp.out hb)
      replace Hg := hide (blk_later Hg.out hb)
      replace Ho := hide (blk_later Ho.out hb)
      clear hb
      rw [h1]
      obtain ⟨y0, y1⟩ := Hg.out.c2
      have lty := Hg.out.lt
      go_wp2_with fail
      refine (inside_any _ _ _ _ _).mono ?_
      rintro e w3 ⟨rfl, hb⟩
      replace HB := hide (onward HB.out hb)
      replace Hp := hide (blk_later Hp.out hb)
      replace Hg := hide (blk_later Hg.out hb)
      replace Ho := hide (blk_later Ho.out hb)
      clear hb y0 y1 lty
      rw [h2]
      obtain ⟨y0, y1⟩ := Hg.out.c2
      have lty := Hg.out.lt
      obtain ⟨x0, x1⟩ := Hp.out.c2
      have ltx := Hp.out.lt
      go_wp2_with fail
      have lto := Ho.out.lt
      apply wp_region_F (w0 := w3) [[], [0], [0, 1], [], [3], [0, 1, 2, 3, 4], [0, 1, 2, 3, 4, 5], [], [7], [7, 8], [], [10], [7, 8, 9, 10, 11], [7, 8, 9, 10, 11, 12], [0, 1, 2, 3, 4, 5, 6, 7, 8, 9, 10, 11, 12, 13], [0, 1, 2, 3, 4, 5, 6, 7, 8, 9, 10, 11, 12, 13, 14], [0, 1, 2, 3, 4, 5, 6, 7, 8, 9, 10, 11, 12, 13, 14, 15]] [true, true, true, true, true, true, true, true, true, true, true, true, true, true, true, false, false] [false, false, false, false, false, false, false, false, false, false, false, false, false, false, false, false, true] [⟨15, none, [], []⟩] [(15, (w.heap.size+2))] [15] (fun ixq y => match ixq with | 15 => undef | _ => undef) (fun ixq x F wq => match ixq with | 15 => F (w.heap.size+2) ∧ Blk wq (w.heap.size+2) 23 #[.int .i64 n1, .int .i64 n2] | _ => True) (fun a x => (a).put (none) (undef)) (by kernel_rfl) (by kernel_rfl) (by kernel_rfl) (fun _ => rfl) [27] (by kernel_rfl) (fills_lt1 (by omega)) fills_ne1
      · intro x D hD
        have hne := hD.some
        have k0 := liftS hD x0 (by exact early_all (by first | assumption | omega) (by rfl))
        have k1 := liftS hD x1 (by exact early_all (by first | assumption | omega) (by rfl))
        have k2 := liftS hD y0 (by exact early_all (by first | assumption | omega) (by rfl))
        have k3 := liftS hD y1 (by exact early_all (by first | assumption | omega) (by rfl))
        simp only [takeOps, Act.put, List.setIfInBounds_toArray, List.set_cons_succ, List.set_cons_zero]
        repeat (go_big_quiet_step ((first | (go_at_call 54; exact calls_same _ (Hu.out _)) | (go_at_call 56; exact calls_same _ (Hd.out _)) | (go_at_call 57; exact calls_same _ (Hu2.out _)))))
        exact wpQuiet_nil rfl
      · intro x D hD
        have hne := hD.some
        simp only [takeOps, Act.put, List.setIfInBounds_toArray, List.set_cons_succ, List.set_cons_zero]
        repeat (go_big_quiet_step ((first | (go_at_call 54; exact calls_same _ (Hu.out _)) | (go_at_call 56; exact calls_same _ (Hd.out _)) | (go_at_call 57; exact calls_same _ (Hu2.out _)))))
        exact wpQuiet_nil rfl
      · intro d hd x x'
        simp only [List.mem_cons, List.not_mem_nil, or_false] at hd
        rcases hd with rfl
        all_goals rfl
      · refine ⟨?_, trivial⟩
        · exact obl_fill 23 23 4 29 (w.heap.size+2) _ (fun x => #[.int .i64 n1, .int .i64 n2]) (by kernel_rfl) (fun _ => rfl) (fun _ => rfl) Ho.out eb_fill1 (by simp [wrF]) (fun _ => by kernel_rfl) (fun _ => rfl) (fun _ => by simp [Value.oneCell']) (fun _ => rfl) (fun _ _ _ _ h1 h2 => ⟨h1, h2⟩)
      · refine ⟨?_, trivial⟩
        · exact owe_fill (w.heap.size+2) 23 (fun x => #[.int .i64 n1, .int .i64 n2]) (fun _ _ _ => rfl) (fun _ _ _ => rfl)
      intro xr w4 F hK hlv1
      obtain ⟨fct15, -⟩ := hlv1
      replace fct15 : (F 15) (w.heap.size+2) ∧ Blk w4 (w.heap.size+2) 23 #[.int .i64 n1, .int .i64 n2] := fct15 rfl
      have hbr := below_kept HB.out HB.out.size hK (by simp)
      have ho4 := fct15.2
      obtain ⟨e0, e1⟩ := ho4.c2
      have fe0 := ho4.frozen 0
      have fe1 := ho4.frozen 1
      have lte := ho4.lt
      go_wp2
      refine bodyPost_ret (v := corrV r) (by rw [HR.out]; simp [corrV, results, Try.results13, go_sem, e0, e1, fe0, fe1, lte]) rfl ⟨rfl, hbr⟩
    · have h3 : inS g1 g2 1 1000000 = false := by simpa using h2
      rw [if_neg (by rw [h3]; simp)] at hR
      have HR := hide hR
      clear hR
      go_enter Try.func13, Try.ntmps13
      have HB := hide (Below.refl w.heap.size w)
      go_wp2_with fail
      refine at_world fun w1 hW => ?_
      have bq0 : Blk w1 w.heap.size 23 #[.int .i64 p1, .int .i64 p2] := by rw [hW]; exact ((Blk.new _ _ _).alloc _).alloc _
      have bq1 : Blk w1 (w.heap.size + 1) 23 #[.int .i64 g1, .int .i64 g2] := by rw [hW]; exact (blk_new_at (by simp)).alloc _
      have bq2 : Blk w1 (w.heap.size + 2) 23 #[.int .i64 0, .int .i64 0] := by rw [hW]; exact blk_new_at (by simp)
      have LW : Later w w1 := by rw [hW]; exact ((((Below.refl _ _).alloc (Nat.le_refl _) _).alloc (by simp; try omega) _).alloc (by simp; try omega) _)
      have szW : w1.heap.size = w.heap.size + 3 := by rw [hW]; simp
      clear hW
      replace HB := hide (onward HB.out LW)
      have Hp := hide bq0
      have Hg := hide bq1
      have Ho := hide bq2
      clear bq0 bq1 bq2 LW szW
      refine (inside_any _ _ _ _ _).mono ?_
      rintro e w2 ⟨rfl, hb⟩
      replace HB := hide (onward HB.out hb)
      replace Hp := hide (blk_later Hp.out hb)
      replace Hg := hide (blk_later Hg.out hb)
      replace Ho := hide (blk_later Ho.out hb)
      clear hb
      rw [h1]
      obtain ⟨y0, y1⟩ := Hg.out.c2
      have lty := Hg.out.lt
      go_wp2_with fail
      refine (inside_any _ _ _ _ _).mono ?_
      rintro e w3 ⟨rfl, hb⟩
      replace HB := hide (onward HB.out hb)
      replace Hp := hide (blk_later Hp.out hb)
      replace Hg := hide (blk_later Hg.out hb)
      replace Ho := hide (blk_later Ho.out hb)
      clear hb y0 y1 lty
      rw [h3]
      obtain ⟨e0, e1⟩ := Ho.out.c2
      have lte := Ho.out.lt
      have fe0 := Ho.out.frozen 0
      have fe1 := Ho.out.frozen 1
      go_wp2
      refine bodyPost_ret (v := corrV r) (by rw [HR.out]; simp [corrV, results, Try.results13, go_sem, e0, e1, fe0, fe1, lte]) rfl ⟨rfl, ?_⟩
      repeat (first | exact HB.out | (refine Below.setCell ?_ (by first | omega | (simp; done) | (simp; omega)) _) | (refine Below.alloc ?_ (by first | omega | (simp; done) | (simp; omega)) _) | (refine below_drewN ?_ _))
  · have h3 : inS p1 p2 0 1073741824 = false := by simpa using h1
    rw [if_neg (by rw [h3]; simp)] at hR
    have HR := hide hR
    clear hR
    go_enter Try.func13, Try.ntmps13
    have HB := hide (Below.refl w.heap.size w)
    go_wp2_with fail
    refine at_world fun w1 hW => ?_
    have bq0 : Blk w1 w.heap.size 23 #[.int .i64 p1, .int .i64 p2] := by rw [hW]; exact ((Blk.new _ _ _).alloc _).alloc _
    have bq1 : Blk w1 (w.heap.size + 1) 23 #[.int .i64 g1, .int .i64 g2] := by rw [hW]; exact (blk_new_at (by simp)).alloc _
    have bq2 : Blk w1 (w.heap.size + 2) 23 #[.int .i64 0, .int .i64 0] := by rw [hW]; exact blk_new_at (by simp)
    have LW : Later w w1 := by rw [hW]; exact ((((Below.refl _ _).alloc (Nat.le_refl _) _).alloc (by simp; try omega) _).alloc (by simp; try omega) _)
    have szW : w1.heap.size = w.heap.size + 3 := by rw [hW]; simp
    clear hW
    replace HB := hide (onward HB.out LW)
    have Hp := hide bq0
    have Hg := hide bq1
    have Ho := hide bq2
    clear bq0 bq1 bq2 LW szW
    refine (inside_any _ _ _ _ _).mono ?_
    rintro e w2 ⟨rfl, hb⟩
    replace HB := hide (onward HB.out hb)
    replace Hp := hide (blk_later Hp.out hb)
    replace Hg := hide (blk_later Hg.out hb)
    replace Ho := hide (blk_later Ho.out hb)
    clear hb
    rw [h3]
    obtain ⟨e0, e1⟩ := Ho.out.c2
    have lte := Ho.out.lt
    have fe0 := Ho.out.frozen 0
    have fe1 := Ho.out.frozen 1
    go_wp2
    refine bodyPost_ret (v := corrV r) (by rw [HR.out]; simp [corrV, results, Try.results13, go_sem, e0, e1, fe0, fe1, lte]) rfl ⟨rfl, ?_⟩
    repeat (first | exact HB.out | (refine Below.setCell ?_ (by first | omega | (simp; done) | (simp; omega)) _) | (refine Below.alloc ?_ (by first | omega | (simp; done) | (simp; omega)) _) | (refine below_drewN ?_ _))
set_option maxHeartbeats 1000000 in
set_option maxRecDepth 100000 in
theorem RefCorrect_any (p1 p2 g1 g2 : Int) (w : World) :
    Calls Try.prog 14 #[.agg #[.int .i64 p1, .int .i64 p2], .agg #[.int .i64 g1, .int .i64 g2]] w fun e w' => e = .returned (corrV (correctR (p1, p2) (g1, g2))) ∧ Below w.heap.size w w' := by
  have hR : correctR (p1, p2) (g1, g2) = if (inS p1 p2 0 1073741824 && inS g1 g2 1 1000000) = true then ((min 1073741824 (1000 * p1 / g2), min 1073741824 (upD (1000 * p2) g1)), 0) else ((0, 0), 3) := rfl
  generalize correctR (p1, p2) (g1, g2) = r at *
  by_cases h1 : inS p1 p2 0 1073741824 = true
  · by_cases h2 : inS g1 g2 1 1000000 = true
    · rw [if_pos (by rw [h1, h2]; rfl)] at hR
      obtain ⟨a1, a2, a3⟩ := inS_iff.1 h1
      obtain ⟨b1, b2, b3⟩ := inS_iff.1 h2
      have k1 : 0 ≤ 1000 * p1 / g2 := Int.ediv_nonneg (by omega) (by omega)
      have k2 : 1000 * p1 / g2 ≤ 1000 * p1 := Int.ediv_le_self _ (by omega)
      have hu := fun W => up_any (1000 * p2) g1 W (by omega) (by omega) (by omega) (by omega)
      have hu2 := fun W => Up_any (1000 * p2) g1 W (by omega) (by omega) (by omega) (by omega)
      have hd := fun W => Down_any (1000 * p1) g2 W (by omega) (by omega) (by omega) (by omega)
      rw [← upD_cdiv (by omega)] at hu2
      obtain ⟨u, hue⟩ : ∃ u, upD (1000 * p2) g1 = u := ⟨_, rfl⟩
      rw [hue] at hu hu2 hR
      obtain ⟨n1, hn1⟩ : ∃ n1, min 1073741824 (1000 * p1 / g2) = n1 := ⟨_, rfl⟩
      obtain ⟨n2, hn2⟩ : ∃ n2, min 1073741824 u = n2 := ⟨_, rfl⟩
      rw [hn1, hn2] at hR
      have hn1' : (if 1000 * p1 / g2 < 1073741824 then 1000 * p1 / g2 else 1073741824) = n1 := by rw [← hn1]; split <;> omega
      have hn2' : (if u < 1073741824 then u else 1073741824) = n2 := by rw [← hn2]; split <;> omega
      clear hue
      have Hu := hide hu
      have Hu2 := hide hu2
      have Hd := hide hd
      have HR := hide hR
      clear hu hu2 hd hR
      go_enter Try.func14, Try.ntmps14
      have HB := hide (Below.refl w.heap.size w)
      go_wp2_with fail
      refine at_world fun w1 hW => ?_
      have bq0 : Blk w1 w.heap.size 23 #[.int .i64 p1, .int .i64 p2] := by rw [hW]; exact ((Blk.new _ _ _).alloc _).alloc _
      have bq1 : Blk w1 (w.heap.size + 1) 23 #[.int .i64 g1, .int .i64 g2] := by rw [hW]; exact (blk_new_at (by simp)).alloc _
      have bq2 : Blk w1 (w.heap.size + 2) 23 #[.int .i64 0, .int .i64 0] := by rw [hW]; exact blk_new_at (by simp)
      have LW : Later w w1 := by rw [hW]; exact ((((Below.refl _ _).alloc (Nat.le_refl _) _).alloc (by simp; try omega) _).alloc (by simp; try omega) _)
      have szW : w1.heap.size = w.heap.size + 3 := by rw [hW]; simp
      clear hW
      replace HB := hide (onward HB.out LW)
      have Hp := hide bq0
      have Hg := hide bq1
      have Ho := hide bq2
      clear bq0 bq1 bq2 LW szW
      refine (RefValid_any _ _ _ _ _).mono ?_
      rintro e w2 ⟨rfl, hb⟩
      replace HB := hide (onward HB.out hb)
      replace Hp := hide (blk_later Hp.out hb)
      replace Hg := hide (blk_later Hg.out hb)
      replace Ho := hide (blk_later Ho.out hb)
      clear hb
      rw [h1]
      obtain ⟨y0, y1⟩ := Hg.out.c2
      have lty := Hg.out.lt
      go_wp2_with fail
      refine (RefValid_any _ _ _ _ _).mono ?_
      rintro e w3 ⟨rfl, hb⟩
      replace HB := hide (onward HB.out hb)
      replace Hp := hide (blk_later Hp.out hb)
      replace Hg := hide (blk_later Hg.out hb)
      replace Ho := hide (blk_later Ho.out hb)
      clear hb y0 y1 lty
      rw [h2]
      obtain ⟨y0, y1⟩ := Hg.out.c2
      have lty := Hg.out.lt
      obtain ⟨x0, x1⟩ := Hp.out.c2
      have ltx := Hp.out.lt
      go_wp2_with fail
      have lto := Ho.out.lt
      apply wp_region_F (w0 := w3) [[], [0], [0, 1], [], [3], [0, 1, 2, 3, 4], [0, 1, 2, 3, 4, 5], [], [7], [7, 8], [], [10], [0, 1, 2, 3, 4, 5, 7, 8, 9, 10, 11], [0, 1, 2, 3, 4, 5, 7, 8, 9, 10, 11, 12], [0, 1, 2, 3, 4, 5, 6, 7, 8, 9, 10, 11, 12, 13], [0, 1, 2, 3, 4, 5, 6, 7, 8, 9, 10, 11, 12, 13, 14], [0, 1, 2, 3, 4, 5, 6, 7, 8, 9, 10, 11, 12, 13, 14, 15]] [true, true, true, true, true, true, true, true, true, true, true, true, true, true, true, false, false] [false, false, false, false, false, false, false, false, false, false, false, false, false, false, false, false, true] [⟨15, none, [], []⟩] [(15, (w.heap.size+2))] [15] (fun ixq y => match ixq with | 15 => undef | _ => undef) (fun ixq x F wq => match ixq with | 15 => F (w.heap.size+2) ∧ Blk wq (w.heap.size+2) 23 #[.int .i64 n1, .int .i64 n2] | _ => True) (fun a x => (a).put (none) (undef)) (by kernel_rfl) (by kernel_rfl) (by kernel_rfl) (fun _ => rfl) [20, 27] (by kernel_rfl) (fills_lt1 (by omega)) fills_ne1
      · intro x D hD
        have hne := hD.some
        have k0 := liftS hD x0 (by exact early_all (by first | assumption | omega) (by rfl))
        have k1 := liftS hD x1 (by exact early_all (by first | assumption | omega) (by rfl))
        have k2 := liftS hD y0 (by exact early_all (by first | assumption | omega) (by rfl))
        have k3 := liftS hD y1 (by exact early_all (by first | assumption | omega) (by rfl))
        simp only [takeOps, Act.put, List.setIfInBounds_toArray, List.set_cons_succ, List.set_cons_zero]
        repeat (go_big_quiet_step ((first | (go_at_call 54; exact calls_same _ (Hu.out _)) | (go_at_call 56; exact calls_same _ (Hd.out _)) | (go_at_call 57; exact calls_same _ (Hu2.out _)))))
        exact wpQuiet_nil rfl
      · intro x D hD
        have hne := hD.some
        simp only [takeOps, Act.put, List.setIfInBounds_toArray, List.set_cons_succ, List.set_cons_zero]
        repeat (go_big_quiet_step ((first | (go_at_call 54; exact calls_same _ (Hu.out _)) | (go_at_call 56; exact calls_same _ (Hd.out _)) | (go_at_call 57; exact calls_same _ (Hu2.out _)))))
        exact wpQuiet_nil rfl
      · intro d hd x x'
        simp only [List.mem_cons, List.not_mem_nil, or_false] at hd
        rcases hd with rfl | rfl
        all_goals rfl
      · refine ⟨?_, trivial⟩
        · exact obl_fill 23 23 4 29 (w.heap.size+2) _ (fun x => #[.int .i64 n1, .int .i64 n2]) (by kernel_rfl) (fun _ => rfl) (fun _ => rfl) Ho.out eb_fill1 (by simp [wrF]) (fun _ => by kernel_rfl) (fun _ => rfl) (fun _ => by simp [Value.oneCell']) (fun _ => rfl) (fun _ _ _ _ h1 h2 => ⟨h1, h2⟩)
      · refine ⟨?_, trivial⟩
        · exact owe_fill (w.heap.size+2) 23 (fun x => #[.int .i64 n1, .int .i64 n2]) (fun _ _ _ => rfl) (fun _ _ _ => rfl)
      intro xr w4 F hK hlv2
      obtain ⟨fct15, -⟩ := hlv2
      replace fct15 : (F 15) (w.heap.size+2) ∧ Blk w4 (w.heap.size+2) 23 #[.int .i64 n1, .int .i64 n2] := fct15 rfl
      have hbr := below_kept HB.out HB.out.size hK (by simp)
      have ho4 := fct15.2
      obtain ⟨e0, e1⟩ := ho4.c2
      have fe0 := ho4.frozen 0
      have fe1 := ho4.frozen 1
      have lte := ho4.lt
      go_wp2
      refine bodyPost_ret (v := corrV r) (by rw [HR.out]; simp [corrV, results, Try.results14, go_sem, e0, e1, fe0, fe1, lte]) rfl ⟨rfl, hbr⟩
    · have h3 : inS g1 g2 1 1000000 = false := by simpa using h2
      rw [if_neg (by rw [h3]; simp)] at hR
      have HR := hide hR
      clear hR
      go_enter Try.func14, Try.ntmps14
      have HB := hide (Below.refl w.heap.size w)
      go_wp2_with fail
      refine at_world fun w1 hW => ?_
      have bq0 : Blk w1 w.heap.size 23 #[.int .i64 p1, .int .i64 p2] := by rw [hW]; exact ((Blk.new _ _ _).alloc _).alloc _
      have bq1 : Blk w1 (w.heap.size + 1) 23 #[.int .i64 g1, .int .i64 g2] := by rw [hW]; exact (blk_new_at (by simp)).alloc _
      have bq2 : Blk w1 (w.heap.size + 2) 23 #[.int .i64 0, .int .i64 0] := by rw [hW]; exact blk_new_at (by simp)
      have LW : Later w w1 := by rw [hW]; exact ((((Below.refl _ _).alloc (Nat.le_refl _) _).alloc (by simp; try omega) _).alloc (by simp; try omega) _)
      have szW : w1.heap.size = w.heap.size + 3 := by rw [hW]; simp
      clear hW
      replace HB := hide (onward HB.out LW)
      have Hp := hide bq0
      have Hg := hide bq1
      have Ho := hide bq2
      clear bq0 bq1 bq2 LW szW
      refine (RefValid_any _ _ _ _ _).mono ?_
      rintro e w2 ⟨rfl, hb⟩
      replace HB := hide (onward HB.out hb)
      replace Hp := hide (blk_later Hp.out hb)
      replace Hg := hide (blk_later Hg.out hb)
      replace Ho := hide (blk_later Ho.out hb)
      clear hb
      rw [h1]
      obtain ⟨y0, y1⟩ := Hg.out.c2
      have lty := Hg.out.lt
      go_wp2_with fail
      refine (RefValid_any _ _ _ _ _).mono ?_
      rintro e w3 ⟨rfl, hb⟩
      replace HB := hide (onward HB.out hb)
      replace Hp := hide (blk_later Hp.out hb)
      replace Hg := hide (blk_later Hg.out hb)
      replace Ho := hide (blk_later Ho.out hb)
      clear hb y0 y1 lty
      rw [h3]
      obtain ⟨e0, e1⟩ := Ho.out.c2
      have lte := Ho.out.lt
      have fe0 := Ho.out.frozen 0
      have fe1 := Ho.out.frozen 1
      go_wp2
      refine bodyPost_ret (v := corrV r) (by rw [HR.out]; simp [corrV, results, Try.results14, go_sem, e0, e1, fe0, fe1, lte]) rfl ⟨rfl, ?_⟩
      repeat (first | exact HB.out | (refine Below.setCell ?_ (by first | omega | (simp; done) | (simp; omega)) _) | (refine Below.alloc ?_ (by first | omega | (simp; done) | (simp; omega)) _) | (refine below_drewN ?_ _))
  · have h3 : inS p1 p2 0 1073741824 = false := by simpa using h1
    rw [if_neg (by rw [h3]; simp)] at hR
    have HR := hide hR
    clear hR
    go_enter Try.func14, Try.ntmps14
    have HB := hide (Below.refl w.heap.size w)
    go_wp2_with fail
    refine at_world fun w1 hW => ?_
    have bq0 : Blk w1 w.heap.size 23 #[.int .i64 p1, .int .i64 p2] := by rw [hW]; exact ((Blk.new _ _ _).alloc _).alloc _
    have bq1 : Blk w1 (w.heap.size + 1) 23 #[.int .i64 g1, .int .i64 g2] := by rw [hW]; exact (blk_new_at (by simp)).alloc _
    have bq2 : Blk w1 (w.heap.size + 2) 23 #[.int .i64 0, .int .i64 0] := by rw [hW]; exact blk_new_at (by simp)
    have LW : Later w w1 := by rw [hW]; exact ((((Below.refl _ _).alloc (Nat.le_refl _) _).alloc (by simp; try omega) _).alloc (by simp; try omega) _)
    have szW : w1.heap.size = w.heap.size + 3 := by rw [hW]; simp
    clear hW
    replace HB := hide (onward HB.out LW)
    have Hp := hide bq0
    have Hg := hide bq1
    have Ho := hide bq2
    clear bq0 bq1 bq2 LW szW
    refine (RefValid_any _ _ _ _ _).mono ?_
    rintro e w2 ⟨rfl, hb⟩
    replace HB := hide (onward HB.out hb)
    replace Hp := hide (blk_later Hp.out hb)
    replace Hg := hide (blk_later Hg.out hb)
    replace Ho := hide (blk_later Ho.out hb)
    clear hb
    rw [h3]
    obtain ⟨e0, e1⟩ := Ho.out.c2
    have lte := Ho.out.lt
    have fe0 := Ho.out.frozen 0
    have fe1 := Ho.out.frozen 1
    go_wp2
    refine bodyPost_ret (v := corrV r) (by rw [HR.out]; simp [corrV, results, Try.results14, go_sem, e0, e1, fe0, fe1, lte]) rfl ⟨rfl, ?_⟩
    repeat (first | exact HB.out | (refine Below.setCell ?_ (by first | omega | (simp; done) | (simp; omega)) _) | (refine Below.alloc ?_ (by first | omega | (simp; done) | (simp; omega)) _) | (refine below_drewN ?_ _))
end Go.Proofs.Ytiggefmckomilaa
namespace Go.Proofs.Ytiggefmckomilaa
open Go Go.RowKit

/-- Things that a call has made lie beside those that were there. -/
theorem Mem.join {w0 W W' : World} {ts ts' : List Th} (h : Mem w0 ts W) (h' : Mem W ts' W') : Mem w0 (ts' ++ ts) W' := by
  have hl := h.later h'.below
  have hlt := h.lt
  have hsz := h.size
  refine ⟨fun t ht => ?_, ?_, fun k hk => ?_, hl.below⟩
  · rcases List.mem_append.1 ht with ht | ht
    · exact h'.all t ht
    · exact hl.all t ht
  · unfold fps
    rw [List.flatMap_append, List.nodup_append]
    exact ⟨h'.nodup, h.nodup, fun a ha b hb e => by
      subst e
      have := h'.low a ha
      have := hlt a hb
      omega⟩
  · unfold fps at hk
    rw [List.flatMap_append] at hk
    rcases List.mem_append.1 hk with hk | hk
    · have := h'.low k hk; omega
    · exact h.low k hk
def kb0 : List Ent := [exB, exA, exR]
def kb1 : List Ent := exT :: kb0
def kb2 : List Ent := .test ⟨⟨#[114]⟩, ⟨#[97]⟩, 172800, 2500, 2500⟩ :: kb1
def kb3 : List Ent := .turn ⟨#[98]⟩ true :: kb2
def kb4 : List Ent := .turn ⟨#[98]⟩ false :: kb3
def kb5 : List Ent := .turn ⟨#[97]⟩ true :: kb4
def tmA (k : Nat) : Int := if k = 0 then 0 else if k = 1 then 86400 else 86401
def loA (k : Nat) : Int := if k = 0 then 1000 else if k = 1 then 999 else 998
def hiA (k : Nat) : Int := if k = 0 then 1010 else if k = 1 then 1011 else 1012
def tmB (k : Nat) : Int := if k = 0 then 172800 else if k = 1 then 259200 else 0
def loB (k : Nat) : Int := if k = 0 then 1972 else if k = 1 then 1970 else 1968
def hiB (k : Nat) : Int := if k = 0 then 2029 else if k = 1 then 2031 else 2033
theorem k3 {k : Nat} (h : k < 3) : k = 0 ∨ k = 1 ∨ k = 2 := by omega
theorem timA {k : Nat} (h : k < 3) : (#[.int .i64 0, .int .i64 86400, .int .i64 86401] : Array Value)[k]? = some (.int .i64 (tmA k)) := by rcases k3 h with rfl | rfl | rfl <;> rfl
theorem timB {k : Nat} (h : k < 3) : (#[.int .i64 172800, .int .i64 259200, .int .i64 0] : Array Value)[k]? = some (.int .i64 (tmB k)) := by rcases k3 h with rfl | rfl | rfl <;> rfl
theorem spnA {k : Nat} (h : k < 3) : (#[.int .i64 1000, .int .i64 1010, .int .i64 999, .int .i64 1011, .int .i64 998, .int .i64 1012] : Array Value)[k * 2]? = some (.int .i64 (loA k)) ∧ (#[.int .i64 1000, .int .i64 1010, .int .i64 999, .int .i64 1011, .int .i64 998, .int .i64 1012] : Array Value)[k * 2 + 1]? = some (.int .i64 (hiA k)) := by rcases k3 h with rfl | rfl | rfl <;> exact ⟨rfl, rfl⟩
theorem spnB {k : Nat} (h : k < 3) : (#[.int .i64 1972, .int .i64 2029, .int .i64 1970, .int .i64 2031, .int .i64 1968, .int .i64 2033] : Array Value)[k * 2]? = some (.int .i64 (loB k)) ∧ (#[.int .i64 1972, .int .i64 2029, .int .i64 1970, .int .i64 2031, .int .i64 1968, .int .i64 2033] : Array Value)[k * 2 + 1]? = some (.int .i64 (hiB k)) := by rcases k3 h with rfl | rfl | rfl <;> exact ⟨rfl, rfl⟩
theorem kn_val {k : Nat} (h : k < 3) : valueE kb0 ⟨#[97]⟩ (tmA k) = ((loA k, hiA k), 0) := by rcases k3 h with rfl | rfl | rfl <;> decide +kernel
theorem kn_stale : valueE kb0 ⟨#[97]⟩ 864001 = ((0, 0), 22) := by decide +kernel
theorem kn_t1 : testE kb0 ⟨⟨#[114]⟩, ⟨#[98]⟩, 172800, 998, 1012⟩ = 0 := by decide +kernel
theorem kn_gain {k : Nat} (h : k < 3) : gainE kb1 ⟨#[114]⟩ (tmB k) = ((loB k, hiB k), (0, 0), 0) := by rcases k3 h with rfl | rfl | rfl <;> decide +kernel
theorem kn_t2 : testE kb1 ⟨⟨#[114]⟩, ⟨#[97]⟩, 172800, 2500, 2500⟩ = 0 := by decide +kernel
theorem kn_l2 : ((testsT kb1).length : Int) = 1 := by decide +kernel
theorem kn_g2 : gainE kb2 ⟨#[114]⟩ 172800 = ((0, 0), (0, 1), 14) := by decide +kernel
theorem kn_dep : dependA kb2 ⟨#[97]⟩ = ([⟨#[97]⟩, ⟨#[98]⟩], [0, 1], 0) := by decide +kernel
theorem kn_w3 : turnE kb2 ⟨#[98]⟩ true = 0 := by decide +kernel
theorem kn_g3 : gainE kb3 ⟨#[114]⟩ 172800 = ((2470, 2506), (0, 0), 0) := by decide +kernel
theorem kn_ch : chainA kb3 0 = ([⟨#[98]⟩, ⟨#[97]⟩], 0) := by decide +kernel
theorem kn_w4 : turnE kb3 ⟨#[98]⟩ false = 0 := by decide +kernel
theorem kn_w5 : turnE kb4 ⟨#[97]⟩ true = 0 := by decide +kernel
theorem kn_g5 : gainE kb5 ⟨#[114]⟩ 0 = ((0, 0), (0, 0), 18) := by decide +kernel
theorem kn_v5 : valueE kb5 ⟨#[98]⟩ 86400 = ((0, 0), 22) := by decide +kernel
theorem kn_d5 : defineE kb5 ⟨⟨#[99]⟩, ⟨#[98]⟩, 1000, 1000, 86400, 864000, 0⟩ = 22 := by decide +kernel
theorem kn_len : (kb5.length : Int) = 8 := rfl
theorem kn_drop : kb5.drop (kb5.length - (4 : Int).toNat) = kb1 := rfl
theorem kn_g1 : gainE kb1 ⟨#[114]⟩ 172800 = ((1972, 2029), (0, 0), 0) := by decide +kernel
theorem kn_cor : correctR (100, 200) (1000, 1000) = ((100, 200), 0) := by decide +kernel
end Go.Proofs.Ytiggefmckomilaa
namespace Go.Proofs.Ytiggefmckomilaa
open Go Go.RowKit

theorem kn_back (p : Nat) (L : Lay) (w : World) (hb : BookR kb5 p L w) : Calls Try.prog 38 #[ptrB p, .int .i64 4] w fun e w' => ∃ q, e = .returned (.tuple #[ptrB q, .int .i64 0]) ∧ BookN kb1 q w w' :=
  (Back_any kb5 p L 4 w hb).mono fun e w' h => by
    unfold BackPost at h
    rw [if_pos ⟨by decide, by decide⟩] at h
    exact h
set_option maxHeartbeats 8000000 in
set_option maxRecDepth 100000 in
theorem TraceKnown_any (w : World) : Calls Try.prog 10 #[] w fun e w' => e = .returned (.bool true) ∧ Below w.heap.size w w' := by
  go_enter Try.func10, Try.ntmps10
  have HM := hide (Mem.start w)
  go_wp2_with fail
  refine (book_any _).mono ?_
  rintro e w1 ⟨p, rfl, L, hb, hB, hL⟩
  have HM1 := hide (HM.out.add (t := .book kb0 p L) hB hb hL)
  clear HM hb hB hL
  have HM := HM1
  clear HM1
  unfold ptrB
  go_wp2_with fail
  refine code_world fun w2 hW => ?_
  have HMn := Mem.to (Mem.allocAt (Mem.allocAt HM.out w1.heap.size rfl #[.int .i64 0, .int .i64 86400, .int .i64 86401] 3) (w1.heap.size + 1) (by simp) #[.int .i64 1000, .int .i64 1010, .int .i64 999, .int .i64 1011, .int .i64 998, .int .i64 1012] 23) hW
  have LW : Later w1 w2 := by rw [hW]; exact (((Below.refl _ _).alloc (Nat.le_refl _) _).alloc (by simp; try omega) _)
  have szW : w2.heap.size = w1.heap.size + 2 := by rw [hW]; simp
  clear hW
  replace HM := hide HMn
  clear HMn LW
  generalize hgx : w1.heap.size = gx at HM ⊢
  go_wp2_with fail
  go_loopw [5] (fun i wr => ∃ k : Nat, k ≤ 3 ∧ i = .int .i64 k ∧ Mem w [.blk (gx + 1) 23 #[.int .i64 1000, .int .i64 1010, .int .i64 999, .int .i64 1011, .int .i64 998, .int .i64 1012], .blk gx 3 #[.int .i64 0, .int .i64 86400, .int .i64 86401], .book kb0 p L] wr) (fun i _ => 3 - (intOf i).toNat)
  case atStart => exact ⟨0, Nat.zero_le _, rfl, HM.out⟩
  case round =>
    obtain ⟨k, hk3, rfl, hM⟩ := hrel
    clear HM
    have HM := hide hM
    clear hM
    by_cases hk : k < 3
    · have hk' : (k : Int) < 3 := by omega
      have bT := Mem.blk_ HM.out 1 rfl
      have c0 := bT.c k (timA hk)
      have ltT := bT.lt
      clear bT
      have hv := Value_any kb0 p L ⟨#[97]⟩ (tmA k) wr (Mem.book_ HM.out 2 rfl) (by decide)
      rw [kn_val hk] at hv
      obtain ⟨s1, s2⟩ := spnA hk
      have hs := hide (And.intro s1 s2)
      clear s1 s2
      generalize tmA k = tm at *
      generalize loA k = lo at *
      generalize hiA k = hi at *
      unfold spanE ptrB at hv
      go_wp2_with fail
      refine (hv).mono ?_
      rintro e w3 ⟨rfl, hb⟩
      replace HM := hide (HM.out.later hb)
      clear hb
      clear c0 ltT hv
      go_wp2_with fail
      refine code_world fun w4 hW => ?_
      have HMn := Mem.to (Mem.allocAt HM.out w3.heap.size rfl #[.int .i64 lo, .int .i64 hi] 23) hW
      have LW : Later w3 w4 := by rw [hW]; exact ((Below.refl _ _).alloc (Nat.le_refl _) _)
      have szW : w4.heap.size = w3.heap.size + 1 := by rw [hW]; simp
      clear hW
      replace HM := hide HMn
      clear HMn LW
      generalize hgz : w3.heap.size = gz at HM ⊢
      have bz : Blk w4 gz 23 #[.int .i64 lo, .int .i64 hi] := HM.out.get 0 rfl
      have ltz := bz.lt
      have z0 := bz.c 0 rfl
      have z1 := bz.c 1 rfl
      have bS := Mem.blk_ HM.out 1 rfl
      have c1 := bS.c _ hs.out.1
      have c2 := bS.c _ hs.out.2
      have ltS := bS.lt
      clear bS
      go_quiet (fail)
      have hL : Below w4.heap.size w4 (w4.drewN nq) := below_drewN (Below.refl _ _) _
      generalize (w4.drewN nq : World) = w5 at hL ⊢
      clear c1 c2 ltS
      replace HM := hide (HM.out.later hL)
      clear hL bz ltz z0 z1
      go_wp2_with fail
      go_roundw
      case rel => exact ⟨k + 1, hk, by go_num, HM.out.tail⟩
      case measure => simp [intOf] <;> omega
    · obtain rfl : k = 3 := by omega
      have hv := Value_any kb0 p L ⟨#[97]⟩ 864001 wr (Mem.book_ HM.out 2 rfl) (by decide)
      rw [kn_stale] at hv
      unfold spanE ptrB at hv
      go_wp2_with fail
      refine (hv).mono ?_
      rintro e w3 ⟨rfl, hb⟩
      replace HM := hide (HM.out.later hb)
      clear hb
      clear hv
      go_wp2_with fail
      refine at_world fun w4 hW => ?_
      have HMn := Mem.to (Mem.allocAt HM.out w3.heap.size rfl #[.int .i64 0, .int .i64 0] 23) hW
      have LW : Later w3 w4 := by rw [hW]; exact ((Below.refl _ _).alloc (Nat.le_refl _) _)
      have szW : w4.heap.size = w3.heap.size + 1 := by rw [hW]; simp
      clear hW
      replace HM := hide HMn
      clear HMn LW
      have c2 := Test_any kb0 p L ⟨#[114]⟩ ⟨#[98]⟩ 172800 998 1012 w4 (Mem.book_ HM.out 3 rfl) (by decide) (by decide)
      rw [kn_t1, if_pos rfl, show ((testsT kb0).length : Int) = 0 from rfl] at c2
      unfold ptrB at c2
      refine c2.mono ?_
      clear c2
      rintro e w5 ⟨rfl, hp⟩
      obtain ⟨L2, HMn⟩ := HM.out.enter 3 rfl hp
      replace HM := hide HMn
      clear HMn hp
      rw [if_pos rfl] at HM
      go_wp2_with fail
      refine code_world fun w6 hW => ?_
      have HMn := Mem.to (Mem.allocAt (Mem.allocAt HM.out w5.heap.size rfl #[.int .i64 172800, .int .i64 259200, .int .i64 0] 3) (w5.heap.size + 1) (by simp) #[.int .i64 1972, .int .i64 2029, .int .i64 1970, .int .i64 2031, .int .i64 1968, .int .i64 2033] 23) hW
      have LW : Later w5 w6 := by rw [hW]; exact (((Below.refl _ _).alloc (Nat.le_refl _) _).alloc (by simp; try omega) _)
      have szW : w6.heap.size = w5.heap.size + 2 := by rw [hW]; simp
      clear hW
      replace HM := hide HMn
      clear HMn LW
      generalize hgy : w5.heap.size = gy at HM ⊢
      have HM1 := hide (((HM.out.drop 2 rfl).drop 2 rfl).drop 2 rfl)
      clear HM
      have HM := HM1
      clear HM1
      go_loopw [10] (fun i wr2 => ∃ k : Nat, k ≤ 3 ∧ i = .int .i64 k ∧ Mem w [.blk (gy + 1) 23 #[.int .i64 1972, .int .i64 2029, .int .i64 1970, .int .i64 2031, .int .i64 1968, .int .i64 2033], .blk gy 3 #[.int .i64 172800, .int .i64 259200, .int .i64 0], .book kb1 p L2] wr2) (fun i _ => 3 - (intOf i).toNat)
      case atStart => exact ⟨0, Nat.zero_le _, rfl, HM.out⟩
      case round =>
        obtain ⟨k, hk3, rfl, hM⟩ := hrel
        clear HM
        have HM := hide hM
        clear hM
        by_cases hk : k < 3
        · have hk' : (k : Int) < 3 := by omega
          have bT := Mem.blk_ HM.out 1 rfl
          have c0 := bT.c k (timB hk)
          have ltT := bT.lt
          clear bT
          have hv := Gain_any kb1 p L2 ⟨#[114]⟩ (tmB k) wr (Mem.book_ HM.out 2 rfl) (by decide)
          rw [kn_gain hk] at hv
          obtain ⟨s1, s2⟩ := spnB hk
          have hs := hide (And.intro s1 s2)
          clear s1 s2
          generalize tmB k = tm at *
          generalize loB k = lo at *
          generalize hiB k = hi at *
          unfold gainV ptrB at hv
          go_wp2_with fail
          refine (hv).mono ?_
          rintro e w7 ⟨rfl, hb⟩
          replace HM := hide (HM.out.later hb)
          clear hb
          clear c0 ltT hv
          go_wp2_with fail
          refine code_world fun w8 hW => ?_
          have HMn := Mem.to (Mem.allocAt (Mem.allocAt HM.out w7.heap.size rfl #[.int .i64 lo, .int .i64 hi] 23) (w7.heap.size + 1) (by simp) #[.int .i64 0, .int .i64 0] 52) hW
          have LW : Later w7 w8 := by rw [hW]; exact (((Below.refl _ _).alloc (Nat.le_refl _) _).alloc (by simp; try omega) _)
          have szW : w8.heap.size = w7.heap.size + 2 := by rw [hW]; simp
          clear hW
          replace HM := hide HMn
          clear HMn LW
          generalize hgz : w7.heap.size = gz at HM ⊢
          have bz : Blk w8 gz 23 #[.int .i64 lo, .int .i64 hi] := HM.out.get 1 rfl
          have ltz := bz.lt
          have z0 := bz.c 0 rfl
          have z1 := bz.c 1 rfl
          have bS := Mem.blk_ HM.out 2 rfl
          have c1 := bS.c _ hs.out.1
          have c2 := bS.c _ hs.out.2
          have ltS := bS.lt
          clear bS
          go_quiet (fail)
          have hL : Below w8.heap.size w8 (w8.drewN nq) := below_drewN (Below.refl _ _) _
          generalize (w8.drewN nq : World) = w9 at hL ⊢
          clear c1 c2 ltS
          replace HM := hide (HM.out.later hL)
          clear hL bz ltz z0 z1
          go_wp2_with fail
          go_roundw
          case rel => exact ⟨k + 1, hk, by go_num, HM.out.tail.tail⟩
          case measure => simp [intOf] <;> omega
        · obtain rfl : k = 3 := by omega
          have HM1 := hide HM.out.tail.tail
          clear HM
          have HM := HM1
          clear HM1
          go_wp2_with fail
          refine (point_any _ _).mono ?_
          rintro e w3 ⟨rfl, hb⟩
          replace HM := hide (HM.out.later hb)
          clear hb
          go_wp2_with fail
          have c2 := Test_any kb1 p L2 ⟨#[114]⟩ ⟨#[97]⟩ 172800 2500 2500 w3 (Mem.book_ HM.out 0 rfl) (by decide) (by decide)
          rw [kn_t2, if_pos rfl, kn_l2] at c2
          unfold ptrB at c2
          refine c2.mono ?_
          clear c2
          rintro e w4 ⟨rfl, hp⟩
          obtain ⟨L3, HMn⟩ := HM.out.enter 0 rfl hp
          replace HM := hide HMn
          clear HMn hp
          rw [if_pos rfl] at HM
          go_wp2_with fail
          have hv := Gain_any kb2 p L3 ⟨#[114]⟩ 172800 w4 (Mem.book_ HM.out 0 rfl) (by decide)
          rw [kn_g2] at hv
          unfold gainV ptrB at hv
          refine (hv).mono ?_
          rintro e w5 ⟨rfl, hb⟩
          replace HM := hide (HM.out.later hb)
          clear hb
          clear hv
          go_wp2_with fail
          refine at_world fun w6 hW => ?_
          have HMn := Mem.to (Mem.allocAt (Mem.allocAt HM.out w5.heap.size rfl #[.int .i64 0, .int .i64 0] 23) (w5.heap.size + 1) (by simp) #[.int .i64 0, .int .i64 1] 52) hW
          have LW : Later w5 w6 := by rw [hW]; exact (((Below.refl _ _).alloc (Nat.le_refl _) _).alloc (by simp; try omega) _)
          have szW : w6.heap.size = w5.heap.size + 2 := by rw [hW]; simp
          clear hW
          replace HM := hide HMn
          clear HMn LW
          have hv := Depends_any kb2 p L3 ⟨#[97]⟩ w6 (Mem.book_ HM.out 2 rfl) (by decide)
          rw [kn_dep] at hv
          unfold ptrB at hv
          refine hv.mono ?_
          clear hv
          rintro e w7 ⟨v1, v2, rfl, hM⟩
          have HM1 := hide (HM.out.join hM)
          clear HM hM
          have HM := HM1
          clear HM1
          obtain ⟨A2, c2, rfl⟩ := own_shape2 (Mem.row_ HM.out 0 rfl)
          obtain ⟨A1, c1, rfl⟩ := own_shape2 (Mem.row_ HM.out 1 rfl)
          have HM1 := hide ((HM.out.drop 3 rfl) : Mem w [.row w6.heap.size 3 1 (.slice A2 2 c2) 2 (natV [0, 1]), .row w6.heap.size 9 1 (.slice A1 2 c1) 2 (strV [⟨#[97]⟩, ⟨#[98]⟩]), .blk (w5.heap.size + 1) 52 #[.int .i64 0, .int .i64 1], .book kb2 p L3] w7)
          clear HM
          have HM := HM1
          clear HM1
          generalize hga : w5.heap.size + 1 = ga at HM ⊢
          have bz : Blk w7 ga 52 #[.int .i64 0, .int .i64 1] := HM.out.get 2 rfl
          have ltz := bz.lt
          have z0 := bz.c 0 rfl
          have z1 := bz.c 1 rfl
          have heq := eqAt 0 1 0 1
          go_wp2_with fail
          refine at_world fun w8 hW => ?_
          have HMn := Mem.to (Mem.allocAt HM.out w7.heap.size rfl #[.string ⟨#[97]⟩, .string ⟨#[98]⟩] 9) hW
          have LW : Later w7 w8 := by rw [hW]; exact ((Below.refl _ _).alloc (Nat.le_refl _) _)
          have szW : w8.heap.size = w7.heap.size + 1 := by rw [hW]; simp
          clear hW bz ltz z0 z1
          replace HM := hide HMn
          clear HMn LW
          refine (texts_any A1 (some ⟨w7.heap.size, 0, none⟩) 2 2 c1 2 [⟨#[97]⟩, ⟨#[98]⟩] w8 rfl rfl (by decide) (ListAt.own (Mem.row_ HM.out 2 rfl) rfl) (ListAt.blk (Mem.blk_ HM.out 0 rfl) rfl)).mono ?_
          rintro e w9 ⟨rfl, hb⟩
          replace HM := hide (HM.out.later hb)
          clear hb
          go_wp2_with fail
          refine at_world fun w10 hW => ?_
          have HMn := Mem.to (Mem.allocAt HM.out w9.heap.size rfl #[.int .i64 0, .int .i64 1] 3) hW
          have LW : Later w9 w10 := by rw [hW]; exact ((Below.refl _ _).alloc (Nat.le_refl _) _)
          have szW : w10.heap.size = w9.heap.size + 1 := by rw [hW]; simp
          clear hW
          replace HM := hide HMn
          clear HMn LW
          refine (ints_any A2 (some ⟨w9.heap.size, 0, none⟩) 2 2 c2 2 [.int .i64 0, .int .i64 1] w10 rfl rfl (by decide) (fun v hv => by simp at hv; rcases hv with rfl | rfl <;> exact ⟨_, rfl⟩) (ListAt.own (Mem.row_ HM.out 2 rfl) rfl) (ListAt.blk (Mem.blk_ HM.out 0 rfl) rfl)).mono ?_
          rintro e w11 ⟨rfl, hb⟩
          replace HM := hide (HM.out.later hb)
          clear hb
          go_wp2_with fail
          have HM1 := hide (((((HM.out.drop 0 rfl).drop 0 rfl).drop 0 rfl).drop 0 rfl).drop 0 rfl : Mem w [.book kb2 p L3] w11)
          clear HM
          have HM := HM1
          clear HM1
          have c2 := Withdraw_any kb2 p L3 ⟨#[98]⟩ w11 (Mem.book_ HM.out 0 rfl) (by decide)
          rw [kn_w3] at c2
          unfold ptrB at c2
          refine c2.mono ?_
          clear c2
          rintro e w12 ⟨rfl, hp⟩
          obtain ⟨L4, HMn⟩ := HM.out.enter 0 rfl hp
          replace HM := hide HMn
          clear HMn hp
          rw [if_pos rfl] at HM
          go_wp2_with fail
          have hv := Gain_any kb3 p L4 ⟨#[114]⟩ 172800 w12 (Mem.book_ HM.out 0 rfl) (by decide)
          rw [kn_g3] at hv
          unfold gainV ptrB at hv
          refine (hv).mono ?_
          rintro e w13 ⟨rfl, hb⟩
          replace HM := hide (HM.out.later hb)
          clear hb
          clear hv
          go_wp2_with fail
          refine at_world fun w14 hW => ?_
          have HMn := Mem.to (Mem.allocAt (Mem.allocAt HM.out w13.heap.size rfl #[.int .i64 2470, .int .i64 2506] 23) (w13.heap.size + 1) (by simp) #[.int .i64 0, .int .i64 0] 52) hW
          have LW : Later w13 w14 := by rw [hW]; exact (((Below.refl _ _).alloc (Nat.le_refl _) _).alloc (by simp; try omega) _)
          have szW : w14.heap.size = w13.heap.size + 2 := by rw [hW]; simp
          clear hW
          replace HM := hide HMn
          clear HMn LW
          generalize hgv : w13.heap.size = gv at HM ⊢
          have hv := Chain_any kb3 p L4 0 w14 (Mem.book_ HM.out 2 rfl)
          rw [kn_ch] at hv
          unfold ptrB at hv
          refine hv.mono ?_
          clear hv
          rintro e w15 ⟨v1, rfl, hb1, ho1⟩
          have HM1 := hide (HM.out.add (t := .row w14.heap.size 9 1 v1 2 (strV [⟨#[98]⟩, ⟨#[97]⟩])) hb1 ho1 (fun k hk => (ho1.lt k (optL_iff.1 hk)).1))
          clear HM hb1 ho1
          have HM := HM1
          clear HM1
          obtain ⟨A3, c3, rfl⟩ := own_shape2 (Mem.row_ HM.out 0 rfl)
          have bz : Blk w15 gv 23 #[.int .i64 2470, .int .i64 2506] := HM.out.get 2 rfl
          have ltz := bz.lt
          have z0 := bz.c 0 rfl
          have z1 := bz.c 1 rfl
          go_wp2_with fail
          refine at_world fun w16 hW => ?_
          have HMn := Mem.to (Mem.allocAt HM.out w15.heap.size rfl #[.string ⟨#[98]⟩, .string ⟨#[97]⟩] 9) hW
          have LW : Later w15 w16 := by rw [hW]; exact ((Below.refl _ _).alloc (Nat.le_refl _) _)
          have szW : w16.heap.size = w15.heap.size + 1 := by rw [hW]; simp
          clear hW bz ltz z0 z1
          replace HM := hide HMn
          clear HMn LW
          refine (texts_any A3 (some ⟨w15.heap.size, 0, none⟩) 2 2 c3 2 [⟨#[98]⟩, ⟨#[97]⟩] w16 rfl rfl (by decide) (ListAt.own (Mem.row_ HM.out 1 rfl) rfl) (ListAt.blk (Mem.blk_ HM.out 0 rfl) rfl)).mono ?_
          rintro e w17 ⟨rfl, hb⟩
          replace HM := hide (HM.out.later hb)
          clear hb
          have HM1 := hide (((HM.out.drop 0 rfl).drop 0 rfl).drop 0 rfl : Mem w [.blk gv 23 #[.int .i64 2470, .int .i64 2506], .book kb3 p L4] w17)
          clear HM
          have HM := HM1
          clear HM1
          go_wp2_with fail
          have c2 := Reinstate_any kb3 p L4 ⟨#[98]⟩ w17 (Mem.book_ HM.out 1 rfl) (by decide)
          rw [kn_w4] at c2
          unfold ptrB at c2
          refine c2.mono ?_
          clear c2
          rintro e w18 ⟨rfl, hp⟩
          obtain ⟨L5, HMn⟩ := HM.out.enter 1 rfl hp
          replace HM := hide HMn
          clear HMn hp
          rw [if_pos rfl] at HM
          go_wp2_with fail
          have c2 := Withdraw_any kb4 p L5 ⟨#[97]⟩ w18 (Mem.book_ HM.out 1 rfl) (by decide)
          rw [kn_w5] at c2
          unfold ptrB at c2
          refine c2.mono ?_
          clear c2
          rintro e w19 ⟨rfl, hp⟩
          obtain ⟨L6, HMn⟩ := HM.out.enter 1 rfl hp
          replace HM := hide HMn
          clear HMn hp
          rw [if_pos rfl] at HM
          go_wp2_with fail
          have hv := Gain_any kb5 p L6 ⟨#[114]⟩ 0 w19 (Mem.book_ HM.out 1 rfl) (by decide)
          rw [kn_g5] at hv
          unfold gainV ptrB at hv
          refine (hv).mono ?_
          rintro e w20 ⟨rfl, hb⟩
          replace HM := hide (HM.out.later hb)
          clear hb
          clear hv
          go_wp2_with fail
          have hv := Value_any kb5 p L6 ⟨#[98]⟩ 86400 w20 (Mem.book_ HM.out 1 rfl) (by decide)
          rw [kn_v5] at hv
          unfold spanE ptrB at hv
          refine (hv).mono ?_
          rintro e w21 ⟨rfl, hb⟩
          replace HM := hide (HM.out.later hb)
          clear hb
          clear hv
          go_wp2_with fail
          refine (point_any _ _).mono ?_
          rintro e w22 ⟨rfl, hb⟩
          replace HM := hide (HM.out.later hb)
          clear hb
          go_wp2_with fail
          have c2 := Define_any kb5 p L6 ⟨⟨#[99]⟩, ⟨#[98]⟩, 1000, 1000, 86400, 864000, 0⟩ w22 (Mem.book_ HM.out 1 rfl) (by decide) (by decide)
          rw [kn_d5] at c2
          unfold ptrB at c2
          refine c2.mono ?_
          clear c2
          rintro e w23 ⟨rfl, hp⟩
          obtain ⟨L7, HMn⟩ := HM.out.enter 1 rfl hp
          replace HM := hide HMn
          clear HMn hp
          rw [if_neg (by decide)] at HM
          go_wp2_with fail
          have hv := Entries_any kb5 p L7 w23 (Mem.book_ HM.out 1 rfl)
          rw [kn_len] at hv
          unfold ptrB at hv
          refine (hv).mono ?_
          rintro e w24 ⟨rfl, hb⟩
          replace HM := hide (HM.out.later hb)
          clear hb
          clear hv
          go_wp2_with fail
          have hv := kn_back p L7 w24 (Mem.book_ HM.out 1 rfl)
          unfold ptrB at hv
          refine hv.mono ?_
          clear hv
          rintro e w25 ⟨q, rfl, Lq, hbq, hBq, hLq⟩
          have HM1 := hide (HM.out.add (t := .book kb1 q Lq) hBq hbq hLq)
          clear HM hbq hBq hLq
          have HM := HM1
          clear HM1
          go_wp2_with fail
          have hv := Gain_any kb1 q Lq ⟨#[114]⟩ 172800 w25 (Mem.book_ HM.out 0 rfl) (by decide)
          rw [kn_g1] at hv
          unfold gainV ptrB at hv
          refine (hv).mono ?_
          rintro e w26 ⟨rfl, hb⟩
          replace HM := hide (HM.out.later hb)
          clear hb
          clear hv
          have bz : Blk w26 gv 23 #[.int .i64 2470, .int .i64 2506] := HM.out.get 1 rfl
          have ltz := bz.lt
          have z0 := bz.c 0 rfl
          have fz0 := bz.frozen 0
          have z1 := bz.c 1 rfl
          have fz1 := bz.frozen 1
          go_wp2_with fail
          refine at_world fun w27 hW => ?_
          have HMn := Mem.to ((HM.out.set_ 1 rfl 0 (.int .i64 1972) rfl).set_ 1 rfl 1 (.int .i64 2029) rfl) hW
          clear HM hW
          clear bz ltz z0 fz0 z1 fz1
          have HM := hide (HMn : Mem w [.book kb1 q Lq, .blk gv 23 #[.int .i64 1972, .int .i64 2029], .book kb5 p L7] w27)
          clear HMn
          refine (point_any _ _).mono ?_
          rintro e w28 ⟨rfl, hb⟩
          replace HM := hide (HM.out.later hb)
          clear hb
          go_wp2_with fail
          have hv := Correct_any 100 200 1000 1000 w28
          rw [kn_cor] at hv
          unfold corrV at hv
          refine (hv).mono ?_
          rintro e w29 ⟨rfl, hb⟩
          replace HM := hide (HM.out.later hb)
          clear hb
          clear hv
          have bz : Blk w29 gv 23 #[.int .i64 1972, .int .i64 2029] := HM.out.get 1 rfl
          have ltz := bz.lt
          have z0 := bz.c 0 rfl
          have z1 := bz.c 1 rfl
          go_wp2_with fail
          refine at_world fun w30 hW => ?_
          have HMn := Mem.to (Mem.allocAt HM.out w29.heap.size rfl #[.int .i64 100, .int .i64 200] 23) hW
          have LW : Later w29 w30 := by rw [hW]; exact ((Below.refl _ _).alloc (Nat.le_refl _) _)
          have szW : w30.heap.size = w29.heap.size + 1 := by rw [hW]; simp
          clear hW bz ltz z0 z1
          replace HM := hide HMn
          clear HMn LW
          refine (works_any _).mono ?_
          rintro e w31 ⟨rfl, hb⟩
          replace HM := hide (HM.out.later hb)
          clear hb
          go_wp2
          go_ret
          exact ⟨rfl, HM.out.below⟩
end Go.Proofs.Ytiggefmckomilaa
