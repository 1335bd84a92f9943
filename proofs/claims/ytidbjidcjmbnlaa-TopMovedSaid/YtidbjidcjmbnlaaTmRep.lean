/-
  slices.Repeat of one number.
-/
import Derived.Test.YtidbjidcjmbnlaaProg
import Derived.Test.YtidbjidcjmbnlaaTmCount
import Derived.Test.YtidbjidcjmbnlaaMemX
import Derived.Test.YtidbjidcjmbnlaaShelfT
import Derived.Laws.CopyOwn
import Derived.Deep.RegionLaw
set_option linter.unusedSimpArgs false
set_option linter.unusedVariables false
namespace Go.Proofs.Ytidbjidcjmbnlaa
open Go Go.RowKit
attribute [local go_sem] Oper.semAt_some

/-- A row of numbers that a function tells. -/
def cellsF (f : Nat → Int) (n : Nat) : Array Value := (Array.range n).map fun j => .int .i64 (f j)
theorem cellsF_at {f : Nat → Int} {n j : Nat} (h : j < n) : (cellsF f n)[j]? = some (.int .i64 (f j)) := by simp [cellsF, h]
theorem cellsF_upd {f : Nat → Int} {n j : Nat} {v : Int} : (cellsF f n).setIfInBounds j (.int .i64 v) = cellsF (updF f j v) n := by
  apply Array.ext
  · simp [cellsF]
  · intro i h1 h2
    have h3 : i < n := by simpa [cellsF] using h1
    rw [Array.getElem_setIfInBounds (by simpa [cellsF] using h3)]
    by_cases hi : j = i
    · subst hi
      simp [cellsF, updF]
    · rw [if_neg hi]
      simp only [cellsF, updF, Array.getElem_map, Array.getElem_range]
      rw [if_neg (by omega)]
/-- So many are laid. -/
def repC (x : Int) (n N : Nat) : List Value := List.replicate n (.int .i64 x) ++ List.replicate (N - n) (.int .i64 0)
theorem repC_len {x : Int} {n N : Nat} (h : n ≤ N) : (repC x n N).length = N := by simp [repC]; omega
theorem repC_get {x : Int} {n N j : Nat} (h : j < n) : (repC x n N)[j]? = some (.int .i64 x) := by simp [repC, List.getElem?_append, h]
theorem repC_made {x : Int} {N : Nat} : madeCells #[.int .i64 0] N = (repC x 0 N).toArray := by
  apply Array.ext
  · simp [madeCells, repC]
  · intro i h1 h2
    simp [madeCells, repC, Nat.mod_one]
theorem repC_splice {x : Int} {n m N : Nat} (h : n + m ≤ N) : splice (repC x n N) n (List.replicate m (.int .i64 x)) = repC x (n + m) N := by
  unfold splice repC
  rw [List.take_append_of_le_length (by simp), List.take_of_length_le (by simp), List.length_replicate, List.drop_append, List.drop_of_length_le (by simp), List.nil_append, List.length_replicate, List.drop_replicate, ← List.append_assoc, List.replicate_append_replicate]
  congr 2
  omega
theorem repC_done {x : Int} {N : Nat} : (repC x N N).toArray = cellsF (fun _ => x) N := by
  apply Array.ext
  · simp [repC, cellsF]
  · intro i h1 h2
    simp [repC, cellsF]
theorem below_of_grownT {w w' : World} (h : w.grownBy w' none) : Below w.heap.size w w' := ⟨h.os, h.tape, h.output, h.size, fun k hk => h.block k hk (by simp)⟩
theorem blk_of_full1 {w : World} {base : Nat} {e : TypeId} {g n : Nat} {cs : Array Value} (h : w.ownsRow base e 1 (.slice (some ⟨g, 0, none⟩) n n) n cs.toList) : Blk w g e cs := by
  obtain ⟨hl, hr | ⟨g', cap, cur, hv, hb, hh, h1, h2, h3, h4⟩⟩ := h
  · cases hr.1
  · injection hv with e1 e2 e3
    injection e1 with e1
    injection e1 with e1 _ _
    subst e1 e3
    rw [List.take_of_length_le (by rw [Array.length_toList, h3]; exact Nat.le_refl _)] at h4
    have : cur = cs := Array.toList_inj.1 h4
    subst this
    exact hh
theorem intSz1 : (Try.prog.info? 3).map (·.size) = some 1 := by kernel_rfl
theorem intInfoT : (Try.prog.info? 3).map (fun i => (i.zero, i.size, i.bytes)) = some (some (.int .i64 0), 1, 8) := by kernel_rfl
set_option maxHeartbeats 1000000 in
set_option maxRecDepth 100000 in
theorem repeat_any (x : Int) (N b : Nat) (w : World) (h1 : 1 ≤ N) (hN : N ≤ 1000) (hb : Blk w b 3 #[.int .i64 x]) :
    Calls Try.prog 75 #[.slice (some ⟨b, 0, none⟩) 1 1, .int .i64 (N : Nat)] w fun e w' =>
      ∃ g, e = .returned (.slice (some ⟨g, 0, none⟩) N N) ∧ w.heap.size ≤ g ∧ Blk w' g 3 (cellsF (fun _ => x) N) ∧ Below w.heap.size w w' := by
  have hi := intInfoT
  cases hci : Try.prog.info? 3 with
  | none => rw [hci] at hi; cases hi
  | some ci =>
  rw [hci] at hi
  have hi' := Option.some.inj hi
  have hz : ci.zero = some (.int .i64 0) := congrArg (fun q => q.1) hi'
  have hs : ci.size = 1 := congrArg (fun q => q.2.1) hi'
  have hby : ci.bytes = 8 := congrArg (fun q => q.2.2) hi'
  have hM := Try.bits_Mul 1 N (by omega) (by omega)
  have z1 : 1 * N / 18446744073709551616 = 0 := by omega
  have z2 : 1 * N % 18446744073709551616 = N := by omega
  rw [z1, z2] at hM
  have hNi : (N : Int) ≤ 1000 := by omega
  have hNj : (1 : Int) ≤ N := by omega
  have HB := hide hb
  have ltb := hb.lt
  have hx0 := hb.c 0 rfl
  have HM := hide hM
  have Hci := hide hci
  have Hz := hide hz
  have Hs := hide hs
  have Hby := hide hby
  clear hM hci hz hs hby
  clear hi hi' hb z1 z2
  go_enter Try.func75, Try.ntmps75
  go_wp2_with fail
  refine (HM.out w).mono ?_
  rintro e w2 ⟨rfl, rfl⟩
  go_wp2_with (first
    | (at_make
       refine wpList_make_full _ rfl (.tmp 29) (.tmp 29) 33 rfl w2.heap.size 3 ci (.int .i64 0) 1 Try.underlying33 Hci.out Hz.out Hs.out .i64 .i64 _ _ N rfl rfl rfl rfl (by rw [Hby.out]; omega) (by unfold maxLen; omega) (Nat.le_refl _) ?_
       intro w3 r1 r2
       have hb3 : Below w2.heap.size w2 w3 := below_of_grownT r2
       have hk3 := blk_of_full1 (cs := madeCells #[.int .i64 0] N) (by rw [Nat.mul_one] at r1; exact r1)
       rw [repC_made (x := x)] at hk3
       have hx3 := (blk_later HB.out hb3).c 0 rfl
       have hk4 : w3.heap[w2.heap.size]? = some (.cells (repC x 0 N).toArray 3 (0, 0)) := hk3
       have hmn : ([Value.int .i64 x] : List Value).length = Nat.min 1 N := by
         show 1 = min 1 N
         omega
       have hsr : ∀ (j : Nat) (v : Value), [Value.int .i64 x][j]? = some v → w3.cell? ((⟨b, 0, none⟩ : Addr).add j) = some v := fun j v h => by
         have h0 : j < 1 := (List.getElem?_eq_some_iff.1 h).1
         obtain rfl : j = 0 := by omega
         have : v = .int .i64 x := by simpa using h.symm
         subst this
         exact hx3
       have HB3 := hide hb3
       have HK3 := hide hk4
       have HMN := hide hmn
       have HSR := hide hsr
       clear hk3 r1 r2 hb3 hk4 hmn hsr)
    | (refine wpList_copy_splice (o := ⟨some 33, _, _, _, _, _⟩) rfl (.tmp 31) (.tmp 32) 33 33 rfl 3 Try.underlying33 intSz1 (some ⟨w2.heap.size, 0, none⟩) (some ⟨b, 0, none⟩) N N 1 1 (by rfl) (by rfl) w2.heap.size 0 (repC x 0 N) 3 HK3.out [.int .i64 x] HMN.out (fun _ => ⟨rfl, _, rfl, HSR.out⟩) (by simp [repC_len (Nat.zero_le _)]; omega) (by simp [Value.oneCell']) w2.heap.size w2 HB3.out (Nat.le_refl _) ?_
       intro w4 HK4 hb4))
  have hsp : splice (repC x 0 N) 0 [.int .i64 x] = repC x 1 N := by
    have := repC_splice (x := x) (n := 0) (m := 1) (N := N) (by omega)
    simpa using this
  have hk5 := HK4.out
  rw [hsp] at hk5
  have HK5 := hide hk5
  have HB4 := hide hb4
  clear hk5 HK4 HK3 HB3 HSR HMN hx3 hsp hb4 hx0
  obtain ⟨g, hg⟩ : ∃ g, w2.heap.size = g := ⟨_, rfl⟩
  have HG := hide hg
  rw [hg] at HK5
  simp only [hg]
  clear hg
  go_loopw [8] (fun i wr => ∃ n : Nat, 1 ≤ n ∧ n ≤ N ∧ i = .int .i64 n ∧ Hid (wr.heap[g]? = some (.cells (repC x n N).toArray 3 (0, 0))) ∧ Hid (Below w2.heap.size w2 wr)) (fun i _ => N - (intOf i).toNat)
  case atStart => exact ⟨1, Nat.le_refl _, h1, by go_num, HK5, HB4⟩
  case round =>
    obtain ⟨n, hn1, hn2, rfl, HK, HB9⟩ := hrel
    clear HK5 HB4
    by_cases hlt : n < N
    · have hlt2 : (n : Int) < N := by omega
      obtain ⟨m, hm⟩ : ∃ m, min n (N - n) = m := ⟨_, rfl⟩
      have hmn : (List.replicate m (Value.int .i64 x)).length = Nat.min n (N - n) := by rw [List.length_replicate]; exact hm.symm
      have hm0 : 0 < m := by omega
      have hbk : Blk wr g 3 (repC x n N).toArray := HK.out
      have hsr : ∀ (j : Nat) (v : Value), (List.replicate m (Value.int .i64 x))[j]? = some v → wr.cell? ((⟨g, 0, none⟩ : Addr).add j) = some v := fun j v h => by
        obtain ⟨h0, h1⟩ := List.getElem?_eq_some_iff.1 h
        rw [List.length_replicate] at h0
        rw [List.getElem_replicate] at h1
        subst h1
        have := hbk.c j (v := .int .i64 x) (by rw [List.getElem?_toArray]; exact repC_get (by omega))
        rw [show (⟨g, 0, none⟩ : Addr).add j = ⟨g, j, none⟩ by unfold Addr.add; split <;> simp_all]
        exact this
      have HMN := hide hmn
      have HSR := hide hsr
      have HM2 := hide hm
      clear hmn hsr hm hbk
      have hne : ¬ N = n := by omega
      have hlm : n + m ≤ N := by have := HM2.out; omega
      have hlmI : (n : Int) + m ≤ 1000 := by omega
      have hlm0 : (0 : Int) ≤ n := by omega
      have hlm1 : (0 : Int) ≤ m := by omega
      go_wp2_with fail
      go_region_law (refine step_copy_splice (o := ⟨some 45, _, _, _, _, _⟩) rfl (.tmp 41) (.tmp 44) 33 33 rfl 3 Try.underlying33 intSz1 (some ⟨g, n, none⟩) (some ⟨g, 0, none⟩) (N - n) (N - n) n N (by simp [Act.eval, Act.put, hne]) (by simp [Act.eval, Act.put, hne]) g n (repC x n N) 3 HK.out (List.replicate m (.int .i64 x)) HMN.out (fun _ => ⟨rfl, _, rfl, HSR.out⟩) (by rw [List.length_replicate, repC_len hn2]; have := HM2.out; omega) (fun v hv => by rw [List.eq_of_mem_replicate hv]; rfl) w2.heap.size w2 ⟨HB9.out.os, HB9.out.tape, HB9.out.output, HB9.out.size, HB9.out.block⟩ (by rw [HG.out]; exact Nat.le_refl _) ?_; intro w5 HK5 hb5)
      have hk6 := HK5.out
      rw [repC_splice hlm] at hk6
      have HK6 := hide hk6
      have HB6 := hide hb5
      have hml : (List.replicate m (Value.int .i64 x)).length = m := List.length_replicate
      clear hk6 HK5 hb5 HK HB9 HSR HMN
      clear hml
      have hwr : IntKind.i64.wrap ((n : Int) + m) = (n : Int) + m := IntWalk.i64_in _ (by omega)
      simp only [List.getElem_toArray, List.getElem_cons_succ, List.getElem_cons_zero, hwr, Act.put, List.setIfInBounds_toArray, List.set_cons_succ, List.set_cons_zero]
      go_wp2_with fail
      go_roundw
      case rel =>
        exact ⟨n + m, by omega, hlm, by go_num, HK6, HB6⟩
      case measure => simp [intOf] <;> omega
    · obtain rfl : n = N := by omega
      have hkk : ¬ ((n : Int) < n) := by omega
      go_wp2
      go_ret
      have hk := HK.out
      rw [repC_done] at hk
      exact ⟨g, rfl, by rw [HG.out]; exact Nat.le_refl _, hk, HB9.out⟩
end Go.Proofs.Ytidbjidcjmbnlaa
