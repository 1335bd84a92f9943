/-
  The neighbors of a pixel: the iterator and its contract.
  Grids and fields: the program's checks (texts of the beams' seat, for this one).
-/
import Derived.Test.YtidbjidcjmbnlaaProg
import Derived.Test.YtidbjidcjmbnlaaTmCount
import Derived.Test.YtidbjidcjmbnlaaMemX
import Derived.Test.YtidbjidcjmbnlaaRangeF
import Derived.Deep.LoopGhost
set_option linter.unusedSimpArgs false
set_option linter.unusedVariables false
section
namespace Go.Proofs.Ytidbjidcjmbnlaa
open Go Go.RowKit
attribute [local go_sem] Oper.semAt_some

def gridC (gx gy gs W H : Int) : Array Value := #[.int .i64 gx, .int .i64 gy, .int .i64 gs, .int .i64 W, .int .i64 H]
/-- A neighbor. -/
abbrev InN (W H p : Nat) := {q : Nat // q ∈ nbL W H p}
theorem around_any (gx gy gs W H p : Int) (w : World) :
    Calls Try.prog 76 #[.agg (gridC gx gy gs W H), .int .i64 p] w fun e w' =>
      e = .returned (.func (.func 90) #[] #[.pointer (some ⟨w.heap.size + 1, 0, none⟩), .pointer (some ⟨w.heap.size, 0, none⟩)]) ∧
      Below w.heap.size w w' ∧ w'.heap.size = w.heap.size + 2 ∧ Blk w' w.heap.size 28 (gridC gx gy gs W H) ∧ Blk w' (w.heap.size + 1) 3 #[.int .i64 p] := by
  unfold gridC
  go_enter Try.func76, Try.ntmps76
  go_wp2
  refine bodyPost_ret (by simp [results, Try.results76, go_sem]) rfl ⟨rfl, ?_, by simp, ?_, ?_⟩
  · exact ((Below.refl _ _).alloc (Nat.le_refl _) _).alloc (by simp) _
  · exact (Blk.new _ _ _).alloc _
  · exact blk_new_at (by simp)
set_option maxHeartbeats 4000000 in
set_option maxRecDepth 100000 in
theorem around_stops (S : Nat → Prop) (gx gy gs : Int) (W H p bg bp m : Nat) (w : World) (hm : 1 ≤ m) (hp : p < W * H) (hW : W ≤ 1000) (hH : H ≤ 1000)
    (hSg : S bg) (hSp : S bp) (Bg : Blk w bg 28 (gridC gx gy gs W H)) (Bp : Blk w bp 3 #[.int .i64 p]) :
    SeqStopsK Fence.wide m Try.prog 90 #[.pointer (some ⟨bp, 0, none⟩), .pointer (some ⟨bg, 0, none⟩)]
      (fun q : InN W H p => #[.int .i64 (q.1 : Int)]) (KeptS S) (fun xs => xs.map (·.1) = nbL W H p) (fun _ => True) 4 w := by
  intro lp J Jx V hV hJ hJx hY h0
  replace Bg := blk_later Bg hV
  replace Bp := blk_later Bp hV
  have hw0 : 0 < W := Nat.pos_of_ne_zero fun e => by rw [e, Nat.zero_mul] at hp; omega
  have hx1 := Nat.mod_lt p hw0
  have hy1 : p / W < H := Nat.div_lt_of_lt_mul hp
  obtain ⟨x, hx0⟩ : ∃ x, p % W = x := ⟨_, rfl⟩
  obtain ⟨y, hy0⟩ : ∃ y, p / W = y := ⟨_, rfl⟩
  have hm1 : (p : Int) % (W : Int) = (x : Int) := by rw [← hx0]; rfl
  have hm2 : (p : Int) / (W : Int) = (y : Int) := by rw [← hy0]; rfl
  have hW0 : ¬ (W : Int) = 0 := by omega
  have hpm : p ≤ 1000000 := by
    have : W * H ≤ 1000 * 1000 := Nat.mul_le_mul hW hH
    omega
  have hdm := Nat.div_add_mod p W
  have hpW : 0 < p / W → W ≤ p := fun h => by
    have h2 : W * 1 ≤ W * (p / W) := Nat.mul_le_mul_left _ h
    omega
  have hp1 : 0 < p % W → 1 ≤ p := fun h => by
    apply Classical.byContradiction
    intro h2
    obtain rfl : p = 0 := by omega
    simp at h
  unfold gridC at Bg
  rw [hx0] at hx1 hp1 hdm
  rw [hy0] at hy1 hpW hdm
  have hNB : nbL W H p = (if 0 < y then [p - W] else []) ++ ((if 0 < x then [p - 1] else []) ++ ((if x + 1 < W then [p + 1] else []) ++ (if y + 1 < H then [p + W] else []))) := by unfold nbL; rw [hx0, hy0]
  have hym : (y : Int) ≤ 1000 := by omega
  have hxm : (x : Int) ≤ 1000 := by omega
  have hpm2 : (p : Int) ≤ 1000000 := by omega
  have hW2 : (W : Int) ≤ 1000 := by omega
  have hH2 : (H : Int) ≤ 1000 := by omega
  have HY := hide hY
  have HJ := hide h0
  have Bg0 := hide Bg
  have Bp0 := hide Bp
  have HJA := hide hJ
  have HJX := hide hJx
  have HSG := hide hSg
  have HSP := hide hSp
  clear hY h0 Bg Bp hJ hJx hSg hSp
  clear hdm hx0 hy0
  refine callsIn_of_wp Try.func90 rfl trivial ?_
  simp only [Try.ntmps90, List.size_toArray, List.length_cons, List.length_nil, Nat.reduceAdd, Nat.reduceSub, Array.replicate_succ, Array.replicate_zero, List.push_toArray, List.append_toArray, List.nil_append, List.cons_append]
  have g3 := Bg0.out.c 3 rfl
  have ltg := Bg0.out.lt
  have p0 := Bp0.out.c 0 rfl
  have ltp := Bp0.out.lt
  gi_wp2_with fail
  refine wpIn_wide.2 ?_
  go_quiet (fail)
  have hL : Below V.heap.size V (V.drewN nq) := below_drewN (Below.refl _ _) _
  simp only [hm1]
  have HJ9 := hide (abides_below HJA.out HJ.out hL)
  replace Bg0 := hide (blk_later Bg0.out hL)
  replace Bp0 := hide (blk_later Bp0.out hL)
  clear HJ
  have HJ := HJ9
  clear HJ9
  generalize hpre : ([] : List (InN W H p)) = pre at HJ
  have HP := hide hpre.symm
  clear hpre hL g3 ltg p0 ltp
  generalize (V.drewN nq : World) = V1 at *
  clear HJA HJX
  have g3 := Bg0.out.c 3 rfl
  have g4 := Bg0.out.c 4 rfl
  have ltg := Bg0.out.lt
  have p0 := Bp0.out.c 0 rfl
  have ltp := Bp0.out.lt
  by_cases h1 : 0 < y
  · have h1' : (0 : Int) < y := by omega
    have e1 : ((p - W : Nat) : Int) = (p : Int) - W := by have := hpW h1; omega
    by_cases h2 : 0 < x
    · have h2' : (0 : Int) < x := by omega
      have e2 : ((p - 1 : Nat) : Int) = (p : Int) - 1 := by have := hp1 h2; omega
      by_cases h3 : x + 1 < W
      · have h3' : (x : Int) + 1 < W := by omega
        have e3 : ((p + 1 : Nat) : Int) = (p : Int) + 1 := by omega
        by_cases h4 : y + 1 < H
        · have h4' : (y : Int) + 1 < H := by omega
          have e4 : ((p + W : Nat) : Int) = (p : Int) + W := by omega
          have HNB := hide (show nbL W H p = [p - W, p - 1, p + 1, p + W] by rw [hNB, if_pos h1, if_pos h2, if_pos h3, if_pos h4]; rfl)
          have mA : p - W ∈ nbL W H p := by rw [HNB.out]; simp
          have mB : p - 1 ∈ nbL W H p := by rw [HNB.out]; simp
          have mC : p + 1 ∈ nbL W H p := by rw [HNB.out]; simp
          have mD : p + W ∈ nbL W H p := by rw [HNB.out]; simp
          clear hNB
          have hY := HY.out pre ⟨p - W, mA⟩ _ HJ.out (by rw [HP.out]; simp)
          simp only [e1] at hY
          obtain ⟨fn, tmps, assign, body, hy, hR⟩ := hY
          have HR := hide hR
          clear hR
          gi_wp2_with (refine wpListIn_skip (by rfl) (by rfl) ?_)
          refine HR.out.mono ?_
          rintro e V5 (⟨rfl, hJ5, hk5⟩ | ⟨rfl, hJ5⟩)
          rotate_left
          · have HJ5 := hide hJ5
            clear hy HR hJ5
            gi_wp2_with (refine wpListIn_skip (by rfl) (by rfl) ?_)
            first | refine bodyPost_ret (results_none rfl _ _ _) rfl ?_ | refine bodyPost_end (results_none rfl _ _ _) rfl ?_
            exact ⟨⟨_, rfl⟩, .inr ⟨_, trivial, HJ5.out⟩⟩
          have HJ9 := hide hJ5
          replace Bg0 := hide (blk_keptS Bg0.out hk5 HSG.out)
          replace Bp0 := hide (blk_keptS Bp0.out hk5 HSP.out)
          clear hy HR hJ5 hk5 HJ g3 g4 ltg p0 ltp
          have HJ := HJ9
          clear HJ9
          generalize hpre2 : pre ++ [⟨p - W, mA⟩] = pre at HJ
          have HP9 := hide (show pre = [⟨p - W, mA⟩] by rw [← hpre2, HP.out]; try rfl)
          clear HP hpre2
          have HP := HP9
          clear HP9
          have g3 := Bg0.out.c 3 rfl
          have g4 := Bg0.out.c 4 rfl
          have ltg := Bg0.out.lt
          have p0 := Bp0.out.c 0 rfl
          have ltp := Bp0.out.lt
          have hY := HY.out pre ⟨p - 1, mB⟩ _ HJ.out (by rw [HP.out]; simp)
          simp only [e2] at hY
          obtain ⟨fn, tmps, assign, body, hy, hR⟩ := hY
          have HR := hide hR
          clear hR
          gi_wp2_with (refine wpListIn_skip (by rfl) (by rfl) ?_)
          refine HR.out.mono ?_
          rintro e V5 (⟨rfl, hJ5, hk5⟩ | ⟨rfl, hJ5⟩)
          rotate_left
          · have HJ5 := hide hJ5
            clear hy HR hJ5
            gi_wp2_with (refine wpListIn_skip (by rfl) (by rfl) ?_)
            first | refine bodyPost_ret (results_none rfl _ _ _) rfl ?_ | refine bodyPost_end (results_none rfl _ _ _) rfl ?_
            exact ⟨⟨_, rfl⟩, .inr ⟨_, trivial, HJ5.out⟩⟩
          have HJ9 := hide hJ5
          replace Bg0 := hide (blk_keptS Bg0.out hk5 HSG.out)
          replace Bp0 := hide (blk_keptS Bp0.out hk5 HSP.out)
          clear hy HR hJ5 hk5 HJ g3 g4 ltg p0 ltp
          have HJ := HJ9
          clear HJ9
          generalize hpre2 : pre ++ [⟨p - 1, mB⟩] = pre at HJ
          have HP9 := hide (show pre = [⟨p - W, mA⟩, ⟨p - 1, mB⟩] by rw [← hpre2, HP.out]; try rfl)
          clear HP hpre2
          have HP := HP9
          clear HP9
          have g3 := Bg0.out.c 3 rfl
          have g4 := Bg0.out.c 4 rfl
          have ltg := Bg0.out.lt
          have p0 := Bp0.out.c 0 rfl
          have ltp := Bp0.out.lt
          have hY := HY.out pre ⟨p + 1, mC⟩ _ HJ.out (by rw [HP.out]; simp)
          simp only [e3] at hY
          obtain ⟨fn, tmps, assign, body, hy, hR⟩ := hY
          have HR := hide hR
          clear hR
          gi_wp2_with (refine wpListIn_skip (by rfl) (by rfl) ?_)
          refine HR.out.mono ?_
          rintro e V5 (⟨rfl, hJ5, hk5⟩ | ⟨rfl, hJ5⟩)
          rotate_left
          · have HJ5 := hide hJ5
            clear hy HR hJ5
            gi_wp2_with (refine wpListIn_skip (by rfl) (by rfl) ?_)
            first | refine bodyPost_ret (results_none rfl _ _ _) rfl ?_ | refine bodyPost_end (results_none rfl _ _ _) rfl ?_
            exact ⟨⟨_, rfl⟩, .inr ⟨_, trivial, HJ5.out⟩⟩
          have HJ9 := hide hJ5
          replace Bg0 := hide (blk_keptS Bg0.out hk5 HSG.out)
          replace Bp0 := hide (blk_keptS Bp0.out hk5 HSP.out)
          clear hy HR hJ5 hk5 HJ g3 g4 ltg p0 ltp
          have HJ := HJ9
          clear HJ9
          generalize hpre2 : pre ++ [⟨p + 1, mC⟩] = pre at HJ
          have HP9 := hide (show pre = [⟨p - W, mA⟩, ⟨p - 1, mB⟩, ⟨p + 1, mC⟩] by rw [← hpre2, HP.out]; try rfl)
          clear HP hpre2
          have HP := HP9
          clear HP9
          have g3 := Bg0.out.c 3 rfl
          have g4 := Bg0.out.c 4 rfl
          have ltg := Bg0.out.lt
          have p0 := Bp0.out.c 0 rfl
          have ltp := Bp0.out.lt
          have hY := HY.out pre ⟨p + W, mD⟩ _ HJ.out (by rw [HP.out]; simp)
          simp only [e4] at hY
          obtain ⟨fn, tmps, assign, body, hy, hR⟩ := hY
          have HR := hide hR
          clear hR
          gi_wp2_with (refine wpListIn_skip (by rfl) (by rfl) ?_)
          refine HR.out.mono ?_
          rintro e V5 (⟨rfl, hJ5, hk5⟩ | ⟨rfl, hJ5⟩)
          rotate_left
          · have HJ5 := hide hJ5
            clear hy HR hJ5
            gi_wp2_with (refine wpListIn_skip (by rfl) (by rfl) ?_)
            first | refine bodyPost_ret (results_none rfl _ _ _) rfl ?_ | refine bodyPost_end (results_none rfl _ _ _) rfl ?_
            exact ⟨⟨_, rfl⟩, .inr ⟨_, trivial, HJ5.out⟩⟩
          have HJ9 := hide hJ5
          replace Bg0 := hide (blk_keptS Bg0.out hk5 HSG.out)
          replace Bp0 := hide (blk_keptS Bp0.out hk5 HSP.out)
          clear hy HR hJ5 hk5 HJ g3 g4 ltg p0 ltp
          have HJ := HJ9
          clear HJ9
          generalize hpre2 : pre ++ [⟨p + W, mD⟩] = pre at HJ
          have HP9 := hide (show pre = [⟨p - W, mA⟩, ⟨p - 1, mB⟩, ⟨p + 1, mC⟩, ⟨p + W, mD⟩] by rw [← hpre2, HP.out]; try rfl)
          clear HP hpre2
          have HP := HP9
          clear HP9
          have g3 := Bg0.out.c 3 rfl
          have g4 := Bg0.out.c 4 rfl
          have ltg := Bg0.out.lt
          have p0 := Bp0.out.c 0 rfl
          have ltp := Bp0.out.lt
          gi_wp2_with (refine wpListIn_skip (by rfl) (by rfl) ?_)
          refine bodyPost_end (results_none rfl _ _ _) rfl ?_
          exact ⟨⟨_, rfl⟩, .inl ⟨pre, by rw [HP.out]; exact HNB.out.symm, HJ.out⟩⟩
        · have h4' : ¬ (y : Int) + 1 < H := by omega
          have HNB := hide (show nbL W H p = [p - W, p - 1, p + 1] by rw [hNB, if_pos h1, if_pos h2, if_pos h3, if_neg h4]; rfl)
          have mA : p - W ∈ nbL W H p := by rw [HNB.out]; simp
          have mB : p - 1 ∈ nbL W H p := by rw [HNB.out]; simp
          have mC : p + 1 ∈ nbL W H p := by rw [HNB.out]; simp
          clear hNB
          have hY := HY.out pre ⟨p - W, mA⟩ _ HJ.out (by rw [HP.out]; simp)
          simp only [e1] at hY
          obtain ⟨fn, tmps, assign, body, hy, hR⟩ := hY
          have HR := hide hR
          clear hR
          gi_wp2_with (refine wpListIn_skip (by rfl) (by rfl) ?_)
          refine HR.out.mono ?_
          rintro e V5 (⟨rfl, hJ5, hk5⟩ | ⟨rfl, hJ5⟩)
          rotate_left
          · have HJ5 := hide hJ5
            clear hy HR hJ5
            gi_wp2_with (refine wpListIn_skip (by rfl) (by rfl) ?_)
            first | refine bodyPost_ret (results_none rfl _ _ _) rfl ?_ | refine bodyPost_end (results_none rfl _ _ _) rfl ?_
            exact ⟨⟨_, rfl⟩, .inr ⟨_, trivial, HJ5.out⟩⟩
          have HJ9 := hide hJ5
          replace Bg0 := hide (blk_keptS Bg0.out hk5 HSG.out)
          replace Bp0 := hide (blk_keptS Bp0.out hk5 HSP.out)
          clear hy HR hJ5 hk5 HJ g3 g4 ltg p0 ltp
          have HJ := HJ9
          clear HJ9
          generalize hpre2 : pre ++ [⟨p - W, mA⟩] = pre at HJ
          have HP9 := hide (show pre = [⟨p - W, mA⟩] by rw [← hpre2, HP.out]; try rfl)
          clear HP hpre2
          have HP := HP9
          clear HP9
          have g3 := Bg0.out.c 3 rfl
          have g4 := Bg0.out.c 4 rfl
          have ltg := Bg0.out.lt
          have p0 := Bp0.out.c 0 rfl
          have ltp := Bp0.out.lt
          have hY := HY.out pre ⟨p - 1, mB⟩ _ HJ.out (by rw [HP.out]; simp)
          simp only [e2] at hY
          obtain ⟨fn, tmps, assign, body, hy, hR⟩ := hY
          have HR := hide hR
          clear hR
          gi_wp2_with (refine wpListIn_skip (by rfl) (by rfl) ?_)
          refine HR.out.mono ?_
          rintro e V5 (⟨rfl, hJ5, hk5⟩ | ⟨rfl, hJ5⟩)
          rotate_left
          · have HJ5 := hide hJ5
            clear hy HR hJ5
            gi_wp2_with (refine wpListIn_skip (by rfl) (by rfl) ?_)
            first | refine bodyPost_ret (results_none rfl _ _ _) rfl ?_ | refine bodyPost_end (results_none rfl _ _ _) rfl ?_
            exact ⟨⟨_, rfl⟩, .inr ⟨_, trivial, HJ5.out⟩⟩
          have HJ9 := hide hJ5
          replace Bg0 := hide (blk_keptS Bg0.out hk5 HSG.out)
          replace Bp0 := hide (blk_keptS Bp0.out hk5 HSP.out)
          clear hy HR hJ5 hk5 HJ g3 g4 ltg p0 ltp
          have HJ := HJ9
          clear HJ9
          generalize hpre2 : pre ++ [⟨p - 1, mB⟩] = pre at HJ
          have HP9 := hide (show pre = [⟨p - W, mA⟩, ⟨p - 1, mB⟩] by rw [← hpre2, HP.out]; try rfl)
          clear HP hpre2
          have HP := HP9
          clear HP9
          have g3 := Bg0.out.c 3 rfl
          have g4 := Bg0.out.c 4 rfl
          have ltg := Bg0.out.lt
          have p0 := Bp0.out.c 0 rfl
          have ltp := Bp0.out.lt
          have hY := HY.out pre ⟨p + 1, mC⟩ _ HJ.out (by rw [HP.out]; simp)
          simp only [e3] at hY
          obtain ⟨fn, tmps, assign, body, hy, hR⟩ := hY
          have HR := hide hR
          clear hR
          gi_wp2_with (refine wpListIn_skip (by rfl) (by rfl) ?_)
          refine HR.out.mono ?_
          rintro e V5 (⟨rfl, hJ5, hk5⟩ | ⟨rfl, hJ5⟩)
          rotate_left
          · have HJ5 := hide hJ5
            clear hy HR hJ5
            gi_wp2_with (refine wpListIn_skip (by rfl) (by rfl) ?_)
            first | refine bodyPost_ret (results_none rfl _ _ _) rfl ?_ | refine bodyPost_end (results_none rfl _ _ _) rfl ?_
            exact ⟨⟨_, rfl⟩, .inr ⟨_, trivial, HJ5.out⟩⟩
          have HJ9 := hide hJ5
          replace Bg0 := hide (blk_keptS Bg0.out hk5 HSG.out)
          replace Bp0 := hide (blk_keptS Bp0.out hk5 HSP.out)
          clear hy HR hJ5 hk5 HJ g3 g4 ltg p0 ltp
          have HJ := HJ9
          clear HJ9
          generalize hpre2 : pre ++ [⟨p + 1, mC⟩] = pre at HJ
          have HP9 := hide (show pre = [⟨p - W, mA⟩, ⟨p - 1, mB⟩, ⟨p + 1, mC⟩] by rw [← hpre2, HP.out]; try rfl)
          clear HP hpre2
          have HP := HP9
          clear HP9
          have g3 := Bg0.out.c 3 rfl
          have g4 := Bg0.out.c 4 rfl
          have ltg := Bg0.out.lt
          have p0 := Bp0.out.c 0 rfl
          have ltp := Bp0.out.lt
          gi_wp2_with (refine wpListIn_skip (by rfl) (by rfl) ?_)
          refine bodyPost_end (results_none rfl _ _ _) rfl ?_
          exact ⟨⟨_, rfl⟩, .inl ⟨pre, by rw [HP.out]; exact HNB.out.symm, HJ.out⟩⟩
      · have h3' : ¬ (x : Int) + 1 < W := by omega
        by_cases h4 : y + 1 < H
        · have h4' : (y : Int) + 1 < H := by omega
          have e4 : ((p + W : Nat) : Int) = (p : Int) + W := by omega
          have HNB := hide (show nbL W H p = [p - W, p - 1, p + W] by rw [hNB, if_pos h1, if_pos h2, if_neg h3, if_pos h4]; rfl)
          have mA : p - W ∈ nbL W H p := by rw [HNB.out]; simp
          have mB : p - 1 ∈ nbL W H p := by rw [HNB.out]; simp
          have mD : p + W ∈ nbL W H p := by rw [HNB.out]; simp
          clear hNB
          have hY := HY.out pre ⟨p - W, mA⟩ _ HJ.out (by rw [HP.out]; simp)
          simp only [e1] at hY
          obtain ⟨fn, tmps, assign, body, hy, hR⟩ := hY
          have HR := hide hR
          clear hR
          gi_wp2_with (refine wpListIn_skip (by rfl) (by rfl) ?_)
          refine HR.out.mono ?_
          rintro e V5 (⟨rfl, hJ5, hk5⟩ | ⟨rfl, hJ5⟩)
          rotate_left
          · have HJ5 := hide hJ5
            clear hy HR hJ5
            gi_wp2_with (refine wpListIn_skip (by rfl) (by rfl) ?_)
            first | refine bodyPost_ret (results_none rfl _ _ _) rfl ?_ | refine bodyPost_end (results_none rfl _ _ _) rfl ?_
            exact ⟨⟨_, rfl⟩, .inr ⟨_, trivial, HJ5.out⟩⟩
          have HJ9 := hide hJ5
          replace Bg0 := hide (blk_keptS Bg0.out hk5 HSG.out)
          replace Bp0 := hide (blk_keptS Bp0.out hk5 HSP.out)
          clear hy HR hJ5 hk5 HJ g3 g4 ltg p0 ltp
          have HJ := HJ9
          clear HJ9
          generalize hpre2 : pre ++ [⟨p - W, mA⟩] = pre at HJ
          have HP9 := hide (show pre = [⟨p - W, mA⟩] by rw [← hpre2, HP.out]; try rfl)
          clear HP hpre2
          have HP := HP9
          clear HP9
          have g3 := Bg0.out.c 3 rfl
          have g4 := Bg0.out.c 4 rfl
          have ltg := Bg0.out.lt
          have p0 := Bp0.out.c 0 rfl
          have ltp := Bp0.out.lt
          have hY := HY.out pre ⟨p - 1, mB⟩ _ HJ.out (by rw [HP.out]; simp)
          simp only [e2] at hY
          obtain ⟨fn, tmps, assign, body, hy, hR⟩ := hY
          have HR := hide hR
          clear hR
          gi_wp2_with (refine wpListIn_skip (by rfl) (by rfl) ?_)
          refine HR.out.mono ?_
          rintro e V5 (⟨rfl, hJ5, hk5⟩ | ⟨rfl, hJ5⟩)
          rotate_left
          · have HJ5 := hide hJ5
            clear hy HR hJ5
            gi_wp2_with (refine wpListIn_skip (by rfl) (by rfl) ?_)
            first | refine bodyPost_ret (results_none rfl _ _ _) rfl ?_ | refine bodyPost_end (results_none rfl _ _ _) rfl ?_
            exact ⟨⟨_, rfl⟩, .inr ⟨_, trivial, HJ5.out⟩⟩
          have HJ9 := hide hJ5
          replace Bg0 := hide (blk_keptS Bg0.out hk5 HSG.out)
          replace Bp0 := hide (blk_keptS Bp0.out hk5 HSP.out)
          clear hy HR hJ5 hk5 HJ g3 g4 ltg p0 ltp
          have HJ := HJ9
          clear HJ9
          generalize hpre2 : pre ++ [⟨p - 1, mB⟩] = pre at HJ
          have HP9 := hide (show pre = [⟨p - W, mA⟩, ⟨p - 1, mB⟩] by rw [← hpre2, HP.out]; try rfl)
          clear HP hpre2
          have HP := HP9
          clear HP9
          have g3 := Bg0.out.c 3 rfl
          have g4 := Bg0.out.c 4 rfl
          have ltg := Bg0.out.lt
          have p0 := Bp0.out.c 0 rfl
          have ltp := Bp0.out.lt
          have hY := HY.out pre ⟨p + W, mD⟩ _ HJ.out (by rw [HP.out]; simp)
          simp only [e4] at hY
          obtain ⟨fn, tmps, assign, body, hy, hR⟩ := hY
          have HR := hide hR
          clear hR
          gi_wp2_with (refine wpListIn_skip (by rfl) (by rfl) ?_)
          refine HR.out.mono ?_
          rintro e V5 (⟨rfl, hJ5, hk5⟩ | ⟨rfl, hJ5⟩)
          rotate_left
          · have HJ5 := hide hJ5
            clear hy HR hJ5
            gi_wp2_with (refine wpListIn_skip (by rfl) (by rfl) ?_)
            first | refine bodyPost_ret (results_none rfl _ _ _) rfl ?_ | refine bodyPost_end (results_none rfl _ _ _) rfl ?_
            exact ⟨⟨_, rfl⟩, .inr ⟨_, trivial, HJ5.out⟩⟩
          have HJ9 := hide hJ5
          replace Bg0 := hide (blk_keptS Bg0.out hk5 HSG.out)
          replace Bp0 := hide (blk_keptS Bp0.out hk5 HSP.out)
          clear hy HR hJ5 hk5 HJ g3 g4 ltg p0 ltp
          have HJ := HJ9
          clear HJ9
          generalize hpre2 : pre ++ [⟨p + W, mD⟩] = pre at HJ
          have HP9 := hide (show pre = [⟨p - W, mA⟩, ⟨p - 1, mB⟩, ⟨p + W, mD⟩] by rw [← hpre2, HP.out]; try rfl)
          clear HP hpre2
          have HP := HP9
          clear HP9
          have g3 := Bg0.out.c 3 rfl
          have g4 := Bg0.out.c 4 rfl
          have ltg := Bg0.out.lt
          have p0 := Bp0.out.c 0 rfl
          have ltp := Bp0.out.lt
          gi_wp2_with (refine wpListIn_skip (by rfl) (by rfl) ?_)
          refine bodyPost_end (results_none rfl _ _ _) rfl ?_
          exact ⟨⟨_, rfl⟩, .inl ⟨pre, by rw [HP.out]; exact HNB.out.symm, HJ.out⟩⟩
        · have h4' : ¬ (y : Int) + 1 < H := by omega
          have HNB := hide (show nbL W H p = [p - W, p - 1] by rw [hNB, if_pos h1, if_pos h2, if_neg h3, if_neg h4]; rfl)
          have mA : p - W ∈ nbL W H p := by rw [HNB.out]; simp
          have mB : p - 1 ∈ nbL W H p := by rw [HNB.out]; simp
          clear hNB
          have hY := HY.out pre ⟨p - W, mA⟩ _ HJ.out (by rw [HP.out]; simp)
          simp only [e1] at hY
          obtain ⟨fn, tmps, assign, body, hy, hR⟩ := hY
          have HR := hide hR
          clear hR
          gi_wp2_with (refine wpListIn_skip (by rfl) (by rfl) ?_)
          refine HR.out.mono ?_
          rintro e V5 (⟨rfl, hJ5, hk5⟩ | ⟨rfl, hJ5⟩)
          rotate_left
          · have HJ5 := hide hJ5
            clear hy HR hJ5
            gi_wp2_with (refine wpListIn_skip (by rfl) (by rfl) ?_)
            first | refine bodyPost_ret (results_none rfl _ _ _) rfl ?_ | refine bodyPost_end (results_none rfl _ _ _) rfl ?_
            exact ⟨⟨_, rfl⟩, .inr ⟨_, trivial, HJ5.out⟩⟩
          have HJ9 := hide hJ5
          replace Bg0 := hide (blk_keptS Bg0.out hk5 HSG.out)
          replace Bp0 := hide (blk_keptS Bp0.out hk5 HSP.out)
          clear hy HR hJ5 hk5 HJ g3 g4 ltg p0 ltp
          have HJ := HJ9
          clear HJ9
          generalize hpre2 : pre ++ [⟨p - W, mA⟩] = pre at HJ
          have HP9 := hide (show pre = [⟨p - W, mA⟩] by rw [← hpre2, HP.out]; try rfl)
          clear HP hpre2
          have HP := HP9
          clear HP9
          have g3 := Bg0.out.c 3 rfl
          have g4 := Bg0.out.c 4 rfl
          have ltg := Bg0.out.lt
          have p0 := Bp0.out.c 0 rfl
          have ltp := Bp0.out.lt
          have hY := HY.out pre ⟨p - 1, mB⟩ _ HJ.out (by rw [HP.out]; simp)
          simp only [e2] at hY
          obtain ⟨fn, tmps, assign, body, hy, hR⟩ := hY
          have HR := hide hR
          clear hR
          gi_wp2_with (refine wpListIn_skip (by rfl) (by rfl) ?_)
          refine HR.out.mono ?_
          rintro e V5 (⟨rfl, hJ5, hk5⟩ | ⟨rfl, hJ5⟩)
          rotate_left
          · have HJ5 := hide hJ5
            clear hy HR hJ5
            gi_wp2_with (refine wpListIn_skip (by rfl) (by rfl) ?_)
            first | refine bodyPost_ret (results_none rfl _ _ _) rfl ?_ | refine bodyPost_end (results_none rfl _ _ _) rfl ?_
            exact ⟨⟨_, rfl⟩, .inr ⟨_, trivial, HJ5.out⟩⟩
          have HJ9 := hide hJ5
          replace Bg0 := hide (blk_keptS Bg0.out hk5 HSG.out)
          replace Bp0 := hide (blk_keptS Bp0.out hk5 HSP.out)
          clear hy HR hJ5 hk5 HJ g3 g4 ltg p0 ltp
          have HJ := HJ9
          clear HJ9
          generalize hpre2 : pre ++ [⟨p - 1, mB⟩] = pre at HJ
          have HP9 := hide (show pre = [⟨p - W, mA⟩, ⟨p - 1, mB⟩] by rw [← hpre2, HP.out]; try rfl)
          clear HP hpre2
          have HP := HP9
          clear HP9
          have g3 := Bg0.out.c 3 rfl
          have g4 := Bg0.out.c 4 rfl
          have ltg := Bg0.out.lt
          have p0 := Bp0.out.c 0 rfl
          have ltp := Bp0.out.lt
          gi_wp2_with (refine wpListIn_skip (by rfl) (by rfl) ?_)
          refine bodyPost_end (results_none rfl _ _ _) rfl ?_
          exact ⟨⟨_, rfl⟩, .inl ⟨pre, by rw [HP.out]; exact HNB.out.symm, HJ.out⟩⟩
    · have h2' : ¬ (0 : Int) < x := by omega
      by_cases h3 : x + 1 < W
      · have h3' : (x : Int) + 1 < W := by omega
        have e3 : ((p + 1 : Nat) : Int) = (p : Int) + 1 := by omega
        by_cases h4 : y + 1 < H
        · have h4' : (y : Int) + 1 < H := by omega
          have e4 : ((p + W : Nat) : Int) = (p : Int) + W := by omega
          have HNB := hide (show nbL W H p = [p - W, p + 1, p + W] by rw [hNB, if_pos h1, if_neg h2, if_pos h3, if_pos h4]; rfl)
          have mA : p - W ∈ nbL W H p := by rw [HNB.out]; simp
          have mC : p + 1 ∈ nbL W H p := by rw [HNB.out]; simp
          have mD : p + W ∈ nbL W H p := by rw [HNB.out]; simp
          clear hNB
          have hY := HY.out pre ⟨p - W, mA⟩ _ HJ.out (by rw [HP.out]; simp)
          simp only [e1] at hY
          obtain ⟨fn, tmps, assign, body, hy, hR⟩ := hY
          have HR := hide hR
          clear hR
          gi_wp2_with (refine wpListIn_skip (by rfl) (by rfl) ?_)
          refine HR.out.mono ?_
          rintro e V5 (⟨rfl, hJ5, hk5⟩ | ⟨rfl, hJ5⟩)
          rotate_left
          · have HJ5 := hide hJ5
            clear hy HR hJ5
            gi_wp2_with (refine wpListIn_skip (by rfl) (by rfl) ?_)
            first | refine bodyPost_ret (results_none rfl _ _ _) rfl ?_ | refine bodyPost_end (results_none rfl _ _ _) rfl ?_
            exact ⟨⟨_, rfl⟩, .inr ⟨_, trivial, HJ5.out⟩⟩
          have HJ9 := hide hJ5
          replace Bg0 := hide (blk_keptS Bg0.out hk5 HSG.out)
          replace Bp0 := hide (blk_keptS Bp0.out hk5 HSP.out)
          clear hy HR hJ5 hk5 HJ g3 g4 ltg p0 ltp
          have HJ := HJ9
          clear HJ9
          generalize hpre2 : pre ++ [⟨p - W, mA⟩] = pre at HJ
          have HP9 := hide (show pre = [⟨p - W, mA⟩] by rw [← hpre2, HP.out]; try rfl)
          clear HP hpre2
          have HP := HP9
          clear HP9
          have g3 := Bg0.out.c 3 rfl
          have g4 := Bg0.out.c 4 rfl
          have ltg := Bg0.out.lt
          have p0 := Bp0.out.c 0 rfl
          have ltp := Bp0.out.lt
          have hY := HY.out pre ⟨p + 1, mC⟩ _ HJ.out (by rw [HP.out]; simp)
          simp only [e3] at hY
          obtain ⟨fn, tmps, assign, body, hy, hR⟩ := hY
          have HR := hide hR
          clear hR
          gi_wp2_with (refine wpListIn_skip (by rfl) (by rfl) ?_)
          refine HR.out.mono ?_
          rintro e V5 (⟨rfl, hJ5, hk5⟩ | ⟨rfl, hJ5⟩)
          rotate_left
          · have HJ5 := hide hJ5
            clear hy HR hJ5
            gi_wp2_with (refine wpListIn_skip (by rfl) (by rfl) ?_)
            first | refine bodyPost_ret (results_none rfl _ _ _) rfl ?_ | refine bodyPost_end (results_none rfl _ _ _) rfl ?_
            exact ⟨⟨_, rfl⟩, .inr ⟨_, trivial, HJ5.out⟩⟩
          have HJ9 := hide hJ5
          replace Bg0 := hide (blk_keptS Bg0.out hk5 HSG.out)
          replace Bp0 := hide (blk_keptS Bp0.out hk5 HSP.out)
          clear hy HR hJ5 hk5 HJ g3 g4 ltg p0 ltp
          have HJ := HJ9
          clear HJ9
          generalize hpre2 : pre ++ [⟨p + 1, mC⟩] = pre at HJ
          have HP9 := hide (show pre = [⟨p - W, mA⟩, ⟨p + 1, mC⟩] by rw [← hpre2, HP.out]; try rfl)
          clear HP hpre2
          have HP := HP9
          clear HP9
          have g3 := Bg0.out.c 3 rfl
          have g4 := Bg0.out.c 4 rfl
          have ltg := Bg0.out.lt
          have p0 := Bp0.out.c 0 rfl
          have ltp := Bp0.out.lt
          have hY := HY.out pre ⟨p + W, mD⟩ _ HJ.out (by rw [HP.out]; simp)
          simp only [e4] at hY
          obtain ⟨fn, tmps, assign, body, hy, hR⟩ := hY
          have HR := hide hR
          clear hR
          gi_wp2_with (refine wpListIn_skip (by rfl) (by rfl) ?_)
          refine HR.out.mono ?_
          rintro e V5 (⟨rfl, hJ5, hk5⟩ | ⟨rfl, hJ5⟩)
          rotate_left
          · have HJ5 := hide hJ5
            clear hy HR hJ5
            gi_wp2_with (refine wpListIn_skip (by rfl) (by rfl) ?_)
            first | refine bodyPost_ret (results_none rfl _ _ _) rfl ?_ | refine bodyPost_end (results_none rfl _ _ _) rfl ?_
            exact ⟨⟨_, rfl⟩, .inr ⟨_, trivial, HJ5.out⟩⟩
          have HJ9 := hide hJ5
          replace Bg0 := hide (blk_keptS Bg0.out hk5 HSG.out)
          replace Bp0 := hide (blk_keptS Bp0.out hk5 HSP.out)
          clear hy HR hJ5 hk5 HJ g3 g4 ltg p0 ltp
          have HJ := HJ9
          clear HJ9
          generalize hpre2 : pre ++ [⟨p + W, mD⟩] = pre at HJ
          have HP9 := hide (show pre = [⟨p - W, mA⟩, ⟨p + 1, mC⟩, ⟨p + W, mD⟩] by rw [← hpre2, HP.out]; try rfl)
          clear HP hpre2
          have HP := HP9
          clear HP9
          have g3 := Bg0.out.c 3 rfl
          have g4 := Bg0.out.c 4 rfl
          have ltg := Bg0.out.lt
          have p0 := Bp0.out.c 0 rfl
          have ltp := Bp0.out.lt
          gi_wp2_with (refine wpListIn_skip (by rfl) (by rfl) ?_)
          refine bodyPost_end (results_none rfl _ _ _) rfl ?_
          exact ⟨⟨_, rfl⟩, .inl ⟨pre, by rw [HP.out]; exact HNB.out.symm, HJ.out⟩⟩
        · have h4' : ¬ (y : Int) + 1 < H := by omega
          have HNB := hide (show nbL W H p = [p - W, p + 1] by rw [hNB, if_pos h1, if_neg h2, if_pos h3, if_neg h4]; rfl)
          have mA : p - W ∈ nbL W H p := by rw [HNB.out]; simp
          have mC : p + 1 ∈ nbL W H p := by rw [HNB.out]; simp
          clear hNB
          have hY := HY.out pre ⟨p - W, mA⟩ _ HJ.out (by rw [HP.out]; simp)
          simp only [e1] at hY
          obtain ⟨fn, tmps, assign, body, hy, hR⟩ := hY
          have HR := hide hR
          clear hR
          gi_wp2_with (refine wpListIn_skip (by rfl) (by rfl) ?_)
          refine HR.out.mono ?_
          rintro e V5 (⟨rfl, hJ5, hk5⟩ | ⟨rfl, hJ5⟩)
          rotate_left
          · have HJ5 := hide hJ5
            clear hy HR hJ5
            gi_wp2_with (refine wpListIn_skip (by rfl) (by rfl) ?_)
            first | refine bodyPost_ret (results_none rfl _ _ _) rfl ?_ | refine bodyPost_end (results_none rfl _ _ _) rfl ?_
            exact ⟨⟨_, rfl⟩, .inr ⟨_, trivial, HJ5.out⟩⟩
          have HJ9 := hide hJ5
          replace Bg0 := hide (blk_keptS Bg0.out hk5 HSG.out)
          replace Bp0 := hide (blk_keptS Bp0.out hk5 HSP.out)
          clear hy HR hJ5 hk5 HJ g3 g4 ltg p0 ltp
          have HJ := HJ9
          clear HJ9
          generalize hpre2 : pre ++ [⟨p - W, mA⟩] = pre at HJ
          have HP9 := hide (show pre = [⟨p - W, mA⟩] by rw [← hpre2, HP.out]; try rfl)
          clear HP hpre2
          have HP := HP9
          clear HP9
          have g3 := Bg0.out.c 3 rfl
          have g4 := Bg0.out.c 4 rfl
          have ltg := Bg0.out.lt
          have p0 := Bp0.out.c 0 rfl
          have ltp := Bp0.out.lt
          have hY := HY.out pre ⟨p + 1, mC⟩ _ HJ.out (by rw [HP.out]; simp)
          simp only [e3] at hY
          obtain ⟨fn, tmps, assign, body, hy, hR⟩ := hY
          have HR := hide hR
          clear hR
          gi_wp2_with (refine wpListIn_skip (by rfl) (by rfl) ?_)
          refine HR.out.mono ?_
          rintro e V5 (⟨rfl, hJ5, hk5⟩ | ⟨rfl, hJ5⟩)
          rotate_left
          · have HJ5 := hide hJ5
            clear hy HR hJ5
            gi_wp2_with (refine wpListIn_skip (by rfl) (by rfl) ?_)
            first | refine bodyPost_ret (results_none rfl _ _ _) rfl ?_ | refine bodyPost_end (results_none rfl _ _ _) rfl ?_
            exact ⟨⟨_, rfl⟩, .inr ⟨_, trivial, HJ5.out⟩⟩
          have HJ9 := hide hJ5
          replace Bg0 := hide (blk_keptS Bg0.out hk5 HSG.out)
          replace Bp0 := hide (blk_keptS Bp0.out hk5 HSP.out)
          clear hy HR hJ5 hk5 HJ g3 g4 ltg p0 ltp
          have HJ := HJ9
          clear HJ9
          generalize hpre2 : pre ++ [⟨p + 1, mC⟩] = pre at HJ
          have HP9 := hide (show pre = [⟨p - W, mA⟩, ⟨p + 1, mC⟩] by rw [← hpre2, HP.out]; try rfl)
          clear HP hpre2
          have HP := HP9
          clear HP9
          have g3 := Bg0.out.c 3 rfl
          have g4 := Bg0.out.c 4 rfl
          have ltg := Bg0.out.lt
          have p0 := Bp0.out.c 0 rfl
          have ltp := Bp0.out.lt
          gi_wp2_with (refine wpListIn_skip (by rfl) (by rfl) ?_)
          refine bodyPost_end (results_none rfl _ _ _) rfl ?_
          exact ⟨⟨_, rfl⟩, .inl ⟨pre, by rw [HP.out]; exact HNB.out.symm, HJ.out⟩⟩
      · have h3' : ¬ (x : Int) + 1 < W := by omega
        by_cases h4 : y + 1 < H
        · have h4' : (y : Int) + 1 < H := by omega
          have e4 : ((p + W : Nat) : Int) = (p : Int) + W := by omega
          have HNB := hide (show nbL W H p = [p - W, p + W] by rw [hNB, if_pos h1, if_neg h2, if_neg h3, if_pos h4]; rfl)
          have mA : p - W ∈ nbL W H p := by rw [HNB.out]; simp
          have mD : p + W ∈ nbL W H p := by rw [HNB.out]; simp
          clear hNB
          have hY := HY.out pre ⟨p - W, mA⟩ _ HJ.out (by rw [HP.out]; simp)
          simp only [e1] at hY
          obtain ⟨fn, tmps, assign, body, hy, hR⟩ := hY
          have HR := hide hR
          clear hR
          gi_wp2_with (refine wpListIn_skip (by rfl) (by rfl) ?_)
          refine HR.out.mono ?_
          rintro e V5 (⟨rfl, hJ5, hk5⟩ | ⟨rfl, hJ5⟩)
          rotate_left
          · have HJ5 := hide hJ5
            clear hy HR hJ5
            gi_wp2_with (refine wpListIn_skip (by rfl) (by rfl) ?_)
            first | refine bodyPost_ret (results_none rfl _ _ _) rfl ?_ | refine bodyPost_end (results_none rfl _ _ _) rfl ?_
            exact ⟨⟨_, rfl⟩, .inr ⟨_, trivial, HJ5.out⟩⟩
          have HJ9 := hide hJ5
          replace Bg0 := hide (blk_keptS Bg0.out hk5 HSG.out)
          replace Bp0 := hide (blk_keptS Bp0.out hk5 HSP.out)
          clear hy HR hJ5 hk5 HJ g3 g4 ltg p0 ltp
          have HJ := HJ9
          clear HJ9
          generalize hpre2 : pre ++ [⟨p - W, mA⟩] = pre at HJ
          have HP9 := hide (show pre = [⟨p - W, mA⟩] by rw [← hpre2, HP.out]; try rfl)
          clear HP hpre2
          have HP := HP9
          clear HP9
          have g3 := Bg0.out.c 3 rfl
          have g4 := Bg0.out.c 4 rfl
          have ltg := Bg0.out.lt
          have p0 := Bp0.out.c 0 rfl
          have ltp := Bp0.out.lt
          have hY := HY.out pre ⟨p + W, mD⟩ _ HJ.out (by rw [HP.out]; simp)
          simp only [e4] at hY
          obtain ⟨fn, tmps, assign, body, hy, hR⟩ := hY
          have HR := hide hR
          clear hR
          gi_wp2_with (refine wpListIn_skip (by rfl) (by rfl) ?_)
          refine HR.out.mono ?_
          rintro e V5 (⟨rfl, hJ5, hk5⟩ | ⟨rfl, hJ5⟩)
          rotate_left
          · have HJ5 := hide hJ5
            clear hy HR hJ5
            gi_wp2_with (refine wpListIn_skip (by rfl) (by rfl) ?_)
            first | refine bodyPost_ret (results_none rfl _ _ _) rfl ?_ | refine bodyPost_end (results_none rfl _ _ _) rfl ?_
            exact ⟨⟨_, rfl⟩, .inr ⟨_, trivial, HJ5.out⟩⟩
          have HJ9 := hide hJ5
          replace Bg0 := hide (blk_keptS Bg0.out hk5 HSG.out)
          replace Bp0 := hide (blk_keptS Bp0.out hk5 HSP.out)
          clear hy HR hJ5 hk5 HJ g3 g4 ltg p0 ltp
          have HJ := HJ9
          clear HJ9
          generalize hpre2 : pre ++ [⟨p + W, mD⟩] = pre at HJ
          have HP9 := hide (show pre = [⟨p - W, mA⟩, ⟨p + W, mD⟩] by rw [← hpre2, HP.out]; try rfl)
          clear HP hpre2
          have HP := HP9
          clear HP9
          have g3 := Bg0.out.c 3 rfl
          have g4 := Bg0.out.c 4 rfl
          have ltg := Bg0.out.lt
          have p0 := Bp0.out.c 0 rfl
          have ltp := Bp0.out.lt
          gi_wp2_with (refine wpListIn_skip (by rfl) (by rfl) ?_)
          refine bodyPost_end (results_none rfl _ _ _) rfl ?_
          exact ⟨⟨_, rfl⟩, .inl ⟨pre, by rw [HP.out]; exact HNB.out.symm, HJ.out⟩⟩
        · have h4' : ¬ (y : Int) + 1 < H := by omega
          have HNB := hide (show nbL W H p = [p - W] by rw [hNB, if_pos h1, if_neg h2, if_neg h3, if_neg h4]; rfl)
          have mA : p - W ∈ nbL W H p := by rw [HNB.out]; simp
          clear hNB
          have hY := HY.out pre ⟨p - W, mA⟩ _ HJ.out (by rw [HP.out]; simp)
          simp only [e1] at hY
          obtain ⟨fn, tmps, assign, body, hy, hR⟩ := hY
          have HR := hide hR
          clear hR
          gi_wp2_with (refine wpListIn_skip (by rfl) (by rfl) ?_)
          refine HR.out.mono ?_
          rintro e V5 (⟨rfl, hJ5, hk5⟩ | ⟨rfl, hJ5⟩)
          rotate_left
          · have HJ5 := hide hJ5
            clear hy HR hJ5
            gi_wp2_with (refine wpListIn_skip (by rfl) (by rfl) ?_)
            first | refine bodyPost_ret (results_none rfl _ _ _) rfl ?_ | refine bodyPost_end (results_none rfl _ _ _) rfl ?_
            exact ⟨⟨_, rfl⟩, .inr ⟨_, trivial, HJ5.out⟩⟩
          have HJ9 := hide hJ5
          replace Bg0 := hide (blk_keptS Bg0.out hk5 HSG.out)
          replace Bp0 := hide (blk_keptS Bp0.out hk5 HSP.out)
          clear hy HR hJ5 hk5 HJ g3 g4 ltg p0 ltp
          have HJ := HJ9
          clear HJ9
          generalize hpre2 : pre ++ [⟨p - W, mA⟩] = pre at HJ
          have HP9 := hide (show pre = [⟨p - W, mA⟩] by rw [← hpre2, HP.out]; try rfl)
          clear HP hpre2
          have HP := HP9
          clear HP9
          have g3 := Bg0.out.c 3 rfl
          have g4 := Bg0.out.c 4 rfl
          have ltg := Bg0.out.lt
          have p0 := Bp0.out.c 0 rfl
          have ltp := Bp0.out.lt
          gi_wp2_with (refine wpListIn_skip (by rfl) (by rfl) ?_)
          refine bodyPost_end (results_none rfl _ _ _) rfl ?_
          exact ⟨⟨_, rfl⟩, .inl ⟨pre, by rw [HP.out]; exact HNB.out.symm, HJ.out⟩⟩
  · have h1' : ¬ (0 : Int) < y := by omega
    by_cases h2 : 0 < x
    · have h2' : (0 : Int) < x := by omega
      have e2 : ((p - 1 : Nat) : Int) = (p : Int) - 1 := by have := hp1 h2; omega
      by_cases h3 : x + 1 < W
      · have h3' : (x : Int) + 1 < W := by omega
        have e3 : ((p + 1 : Nat) : Int) = (p : Int) + 1 := by omega
        by_cases h4 : y + 1 < H
        · have h4' : (y : Int) + 1 < H := by omega
          have e4 : ((p + W : Nat) : Int) = (p : Int) + W := by omega
          have HNB := hide (show nbL W H p = [p - 1, p + 1, p + W] by rw [hNB, if_neg h1, if_pos h2, if_pos h3, if_pos h4]; rfl)
          have mB : p - 1 ∈ nbL W H p := by rw [HNB.out]; simp
          have mC : p + 1 ∈ nbL W H p := by rw [HNB.out]; simp
          have mD : p + W ∈ nbL W H p := by rw [HNB.out]; simp
          clear hNB
          have hY := HY.out pre ⟨p - 1, mB⟩ _ HJ.out (by rw [HP.out]; simp)
          simp only [e2] at hY
          obtain ⟨fn, tmps, assign, body, hy, hR⟩ := hY
          have HR := hide hR
          clear hR
          gi_wp2_with (refine wpListIn_skip (by rfl) (by rfl) ?_)
          refine HR.out.mono ?_
          rintro e V5 (⟨rfl, hJ5, hk5⟩ | ⟨rfl, hJ5⟩)
          rotate_left
          · have HJ5 := hide hJ5
            clear hy HR hJ5
            gi_wp2_with (refine wpListIn_skip (by rfl) (by rfl) ?_)
            first | refine bodyPost_ret (results_none rfl _ _ _) rfl ?_ | refine bodyPost_end (results_none rfl _ _ _) rfl ?_
            exact ⟨⟨_, rfl⟩, .inr ⟨_, trivial, HJ5.out⟩⟩
          have HJ9 := hide hJ5
          replace Bg0 := hide (blk_keptS Bg0.out hk5 HSG.out)
          replace Bp0 := hide (blk_keptS Bp0.out hk5 HSP.out)
          clear hy HR hJ5 hk5 HJ g3 g4 ltg p0 ltp
          have HJ := HJ9
          clear HJ9
          generalize hpre2 : pre ++ [⟨p - 1, mB⟩] = pre at HJ
          have HP9 := hide (show pre = [⟨p - 1, mB⟩] by rw [← hpre2, HP.out]; try rfl)
          clear HP hpre2
          have HP := HP9
          clear HP9
          have g3 := Bg0.out.c 3 rfl
          have g4 := Bg0.out.c 4 rfl
          have ltg := Bg0.out.lt
          have p0 := Bp0.out.c 0 rfl
          have ltp := Bp0.out.lt
          have hY := HY.out pre ⟨p + 1, mC⟩ _ HJ.out (by rw [HP.out]; simp)
          simp only [e3] at hY
          obtain ⟨fn, tmps, assign, body, hy, hR⟩ := hY
          have HR := hide hR
          clear hR
          gi_wp2_with (refine wpListIn_skip (by rfl) (by rfl) ?_)
          refine HR.out.mono ?_
          rintro e V5 (⟨rfl, hJ5, hk5⟩ | ⟨rfl, hJ5⟩)
          rotate_left
          · have HJ5 := hide hJ5
            clear hy HR hJ5
            gi_wp2_with (refine wpListIn_skip (by rfl) (by rfl) ?_)
            first | refine bodyPost_ret (results_none rfl _ _ _) rfl ?_ | refine bodyPost_end (results_none rfl _ _ _) rfl ?_
            exact ⟨⟨_, rfl⟩, .inr ⟨_, trivial, HJ5.out⟩⟩
          have HJ9 := hide hJ5
          replace Bg0 := hide (blk_keptS Bg0.out hk5 HSG.out)
          replace Bp0 := hide (blk_keptS Bp0.out hk5 HSP.out)
          clear hy HR hJ5 hk5 HJ g3 g4 ltg p0 ltp
          have HJ := HJ9
          clear HJ9
          generalize hpre2 : pre ++ [⟨p + 1, mC⟩] = pre at HJ
          have HP9 := hide (show pre = [⟨p - 1, mB⟩, ⟨p + 1, mC⟩] by rw [← hpre2, HP.out]; try rfl)
          clear HP hpre2
          have HP := HP9
          clear HP9
          have g3 := Bg0.out.c 3 rfl
          have g4 := Bg0.out.c 4 rfl
          have ltg := Bg0.out.lt
          have p0 := Bp0.out.c 0 rfl
          have ltp := Bp0.out.lt
          have hY := HY.out pre ⟨p + W, mD⟩ _ HJ.out (by rw [HP.out]; simp)
          simp only [e4] at hY
          obtain ⟨fn, tmps, assign, body, hy, hR⟩ := hY
          have HR := hide hR
          clear hR
          gi_wp2_with (refine wpListIn_skip (by rfl) (by rfl) ?_)
          refine HR.out.mono ?_
          rintro e V5 (⟨rfl, hJ5, hk5⟩ | ⟨rfl, hJ5⟩)
          rotate_left
          · have HJ5 := hide hJ5
            clear hy HR hJ5
            gi_wp2_with (refine wpListIn_skip (by rfl) (by rfl) ?_)
            first | refine bodyPost_ret (results_none rfl _ _ _) rfl ?_ | refine bodyPost_end (results_none rfl _ _ _) rfl ?_
            exact ⟨⟨_, rfl⟩, .inr ⟨_, trivial, HJ5.out⟩⟩
          have HJ9 := hide hJ5
          replace Bg0 := hide (blk_keptS Bg0.out hk5 HSG.out)
          replace Bp0 := hide (blk_keptS Bp0.out hk5 HSP.out)
          clear hy HR hJ5 hk5 HJ g3 g4 ltg p0 ltp
          have HJ := HJ9
          clear HJ9
          generalize hpre2 : pre ++ [⟨p + W, mD⟩] = pre at HJ
          have HP9 := hide (show pre = [⟨p - 1, mB⟩, ⟨p + 1, mC⟩, ⟨p + W, mD⟩] by rw [← hpre2, HP.out]; try rfl)
          clear HP hpre2
          have HP := HP9
          clear HP9
          have g3 := Bg0.out.c 3 rfl
          have g4 := Bg0.out.c 4 rfl
          have ltg := Bg0.out.lt
          have p0 := Bp0.out.c 0 rfl
          have ltp := Bp0.out.lt
          gi_wp2_with (refine wpListIn_skip (by rfl) (by rfl) ?_)
          refine bodyPost_end (results_none rfl _ _ _) rfl ?_
          exact ⟨⟨_, rfl⟩, .inl ⟨pre, by rw [HP.out]; exact HNB.out.symm, HJ.out⟩⟩
        · have h4' : ¬ (y : Int) + 1 < H := by omega
          have HNB := hide (show nbL W H p = [p - 1, p + 1] by rw [hNB, if_neg h1, if_pos h2, if_pos h3, if_neg h4]; rfl)
          have mB : p - 1 ∈ nbL W H p := by rw [HNB.out]; simp
          have mC : p + 1 ∈ nbL W H p := by rw [HNB.out]; simp
          clear hNB
          have hY := HY.out pre ⟨p - 1, mB⟩ _ HJ.out (by rw [HP.out]; simp)
          simp only [e2] at hY
          obtain ⟨fn, tmps, assign, body, hy, hR⟩ := hY
          have HR := hide hR
          clear hR
          gi_wp2_with (refine wpListIn_skip (by rfl) (by rfl) ?_)
          refine HR.out.mono ?_
          rintro e V5 (⟨rfl, hJ5, hk5⟩ | ⟨rfl, hJ5⟩)
          rotate_left
          · have HJ5 := hide hJ5
            clear hy HR hJ5
            gi_wp2_with (refine wpListIn_skip (by rfl) (by rfl) ?_)
            first | refine bodyPost_ret (results_none rfl _ _ _) rfl ?_ | refine bodyPost_end (results_none rfl _ _ _) rfl ?_
            exact ⟨⟨_, rfl⟩, .inr ⟨_, trivial, HJ5.out⟩⟩
          have HJ9 := hide hJ5
          replace Bg0 := hide (blk_keptS Bg0.out hk5 HSG.out)
          replace Bp0 := hide (blk_keptS Bp0.out hk5 HSP.out)
          clear hy HR hJ5 hk5 HJ g3 g4 ltg p0 ltp
          have HJ := HJ9
          clear HJ9
          generalize hpre2 : pre ++ [⟨p - 1, mB⟩] = pre at HJ
          have HP9 := hide (show pre = [⟨p - 1, mB⟩] by rw [← hpre2, HP.out]; try rfl)
          clear HP hpre2
          have HP := HP9
          clear HP9
          have g3 := Bg0.out.c 3 rfl
          have g4 := Bg0.out.c 4 rfl
          have ltg := Bg0.out.lt
          have p0 := Bp0.out.c 0 rfl
          have ltp := Bp0.out.lt
          have hY := HY.out pre ⟨p + 1, mC⟩ _ HJ.out (by rw [HP.out]; simp)
          simp only [e3] at hY
          obtain ⟨fn, tmps, assign, body, hy, hR⟩ := hY
          have HR := hide hR
          clear hR
          gi_wp2_with (refine wpListIn_skip (by rfl) (by rfl) ?_)
          refine HR.out.mono ?_
          rintro e V5 (⟨rfl, hJ5, hk5⟩ | ⟨rfl, hJ5⟩)
          rotate_left
          · have HJ5 := hide hJ5
            clear hy HR hJ5
            gi_wp2_with (refine wpListIn_skip (by rfl) (by rfl) ?_)
            first | refine bodyPost_ret (results_none rfl _ _ _) rfl ?_ | refine bodyPost_end (results_none rfl _ _ _) rfl ?_
            exact ⟨⟨_, rfl⟩, .inr ⟨_, trivial, HJ5.out⟩⟩
          have HJ9 := hide hJ5
          replace Bg0 := hide (blk_keptS Bg0.out hk5 HSG.out)
          replace Bp0 := hide (blk_keptS Bp0.out hk5 HSP.out)
          clear hy HR hJ5 hk5 HJ g3 g4 ltg p0 ltp
          have HJ := HJ9
          clear HJ9
          generalize hpre2 : pre ++ [⟨p + 1, mC⟩] = pre at HJ
          have HP9 := hide (show pre = [⟨p - 1, mB⟩, ⟨p + 1, mC⟩] by rw [← hpre2, HP.out]; try rfl)
          clear HP hpre2
          have HP := HP9
          clear HP9
          have g3 := Bg0.out.c 3 rfl
          have g4 := Bg0.out.c 4 rfl
          have ltg := Bg0.out.lt
          have p0 := Bp0.out.c 0 rfl
          have ltp := Bp0.out.lt
          gi_wp2_with (refine wpListIn_skip (by rfl) (by rfl) ?_)
          refine bodyPost_end (results_none rfl _ _ _) rfl ?_
          exact ⟨⟨_, rfl⟩, .inl ⟨pre, by rw [HP.out]; exact HNB.out.symm, HJ.out⟩⟩
      · have h3' : ¬ (x : Int) + 1 < W := by omega
        by_cases h4 : y + 1 < H
        · have h4' : (y : Int) + 1 < H := by omega
          have e4 : ((p + W : Nat) : Int) = (p : Int) + W := by omega
          have HNB := hide (show nbL W H p = [p - 1, p + W] by rw [hNB, if_neg h1, if_pos h2, if_neg h3, if_pos h4]; rfl)
          have mB : p - 1 ∈ nbL W H p := by rw [HNB.out]; simp
          have mD : p + W ∈ nbL W H p := by rw [HNB.out]; simp
          clear hNB
          have hY := HY.out pre ⟨p - 1, mB⟩ _ HJ.out (by rw [HP.out]; simp)
          simp only [e2] at hY
          obtain ⟨fn, tmps, assign, body, hy, hR⟩ := hY
          have HR := hide hR
          clear hR
          gi_wp2_with (refine wpListIn_skip (by rfl) (by rfl) ?_)
          refine HR.out.mono ?_
          rintro e V5 (⟨rfl, hJ5, hk5⟩ | ⟨rfl, hJ5⟩)
          rotate_left
          · have HJ5 := hide hJ5
            clear hy HR hJ5
            gi_wp2_with (refine wpListIn_skip (by rfl) (by rfl) ?_)
            first | refine bodyPost_ret (results_none rfl _ _ _) rfl ?_ | refine bodyPost_end (results_none rfl _ _ _) rfl ?_
            exact ⟨⟨_, rfl⟩, .inr ⟨_, trivial, HJ5.out⟩⟩
          have HJ9 := hide hJ5
          replace Bg0 := hide (blk_keptS Bg0.out hk5 HSG.out)
          replace Bp0 := hide (blk_keptS Bp0.out hk5 HSP.out)
          clear hy HR hJ5 hk5 HJ g3 g4 ltg p0 ltp
          have HJ := HJ9
          clear HJ9
          generalize hpre2 : pre ++ [⟨p - 1, mB⟩] = pre at HJ
          have HP9 := hide (show pre = [⟨p - 1, mB⟩] by rw [← hpre2, HP.out]; try rfl)
          clear HP hpre2
          have HP := HP9
          clear HP9
          have g3 := Bg0.out.c 3 rfl
          have g4 := Bg0.out.c 4 rfl
          have ltg := Bg0.out.lt
          have p0 := Bp0.out.c 0 rfl
          have ltp := Bp0.out.lt
          have hY := HY.out pre ⟨p + W, mD⟩ _ HJ.out (by rw [HP.out]; simp)
          simp only [e4] at hY
          obtain ⟨fn, tmps, assign, body, hy, hR⟩ := hY
          have HR := hide hR
          clear hR
          gi_wp2_with (refine wpListIn_skip (by rfl) (by rfl) ?_)
          refine HR.out.mono ?_
          rintro e V5 (⟨rfl, hJ5, hk5⟩ | ⟨rfl, hJ5⟩)
          rotate_left
          · have HJ5 := hide hJ5
            clear hy HR hJ5
            gi_wp2_with (refine wpListIn_skip (by rfl) (by rfl) ?_)
            first | refine bodyPost_ret (results_none rfl _ _ _) rfl ?_ | refine bodyPost_end (results_none rfl _ _ _) rfl ?_
            exact ⟨⟨_, rfl⟩, .inr ⟨_, trivial, HJ5.out⟩⟩
          have HJ9 := hide hJ5
          replace Bg0 := hide (blk_keptS Bg0.out hk5 HSG.out)
          replace Bp0 := hide (blk_keptS Bp0.out hk5 HSP.out)
          clear hy HR hJ5 hk5 HJ g3 g4 ltg p0 ltp
          have HJ := HJ9
          clear HJ9
          generalize hpre2 : pre ++ [⟨p + W, mD⟩] = pre at HJ
          have HP9 := hide (show pre = [⟨p - 1, mB⟩, ⟨p + W, mD⟩] by rw [← hpre2, HP.out]; try rfl)
          clear HP hpre2
          have HP := HP9
          clear HP9
          have g3 := Bg0.out.c 3 rfl
          have g4 := Bg0.out.c 4 rfl
          have ltg := Bg0.out.lt
          have p0 := Bp0.out.c 0 rfl
          have ltp := Bp0.out.lt
          gi_wp2_with (refine wpListIn_skip (by rfl) (by rfl) ?_)
          refine bodyPost_end (results_none rfl _ _ _) rfl ?_
          exact ⟨⟨_, rfl⟩, .inl ⟨pre, by rw [HP.out]; exact HNB.out.symm, HJ.out⟩⟩
        · have h4' : ¬ (y : Int) + 1 < H := by omega
          have HNB := hide (show nbL W H p = [p - 1] by rw [hNB, if_neg h1, if_pos h2, if_neg h3, if_neg h4]; rfl)
          have mB : p - 1 ∈ nbL W H p := by rw [HNB.out]; simp
          clear hNB
          have hY := HY.out pre ⟨p - 1, mB⟩ _ HJ.out (by rw [HP.out]; simp)
          simp only [e2] at hY
          obtain ⟨fn, tmps, assign, body, hy, hR⟩ := hY
          have HR := hide hR
          clear hR
          gi_wp2_with (refine wpListIn_skip (by rfl) (by rfl) ?_)
          refine HR.out.mono ?_
          rintro e V5 (⟨rfl, hJ5, hk5⟩ | ⟨rfl, hJ5⟩)
          rotate_left
          · have HJ5 := hide hJ5
            clear hy HR hJ5
            gi_wp2_with (refine wpListIn_skip (by rfl) (by rfl) ?_)
            first | refine bodyPost_ret (results_none rfl _ _ _) rfl ?_ | refine bodyPost_end (results_none rfl _ _ _) rfl ?_
            exact ⟨⟨_, rfl⟩, .inr ⟨_, trivial, HJ5.out⟩⟩
          have HJ9 := hide hJ5
          replace Bg0 := hide (blk_keptS Bg0.out hk5 HSG.out)
          replace Bp0 := hide (blk_keptS Bp0.out hk5 HSP.out)
          clear hy HR hJ5 hk5 HJ g3 g4 ltg p0 ltp
          have HJ := HJ9
          clear HJ9
          generalize hpre2 : pre ++ [⟨p - 1, mB⟩] = pre at HJ
          have HP9 := hide (show pre = [⟨p - 1, mB⟩] by rw [← hpre2, HP.out]; try rfl)
          clear HP hpre2
          have HP := HP9
          clear HP9
          have g3 := Bg0.out.c 3 rfl
          have g4 := Bg0.out.c 4 rfl
          have ltg := Bg0.out.lt
          have p0 := Bp0.out.c 0 rfl
          have ltp := Bp0.out.lt
          gi_wp2_with (refine wpListIn_skip (by rfl) (by rfl) ?_)
          refine bodyPost_end (results_none rfl _ _ _) rfl ?_
          exact ⟨⟨_, rfl⟩, .inl ⟨pre, by rw [HP.out]; exact HNB.out.symm, HJ.out⟩⟩
    · have h2' : ¬ (0 : Int) < x := by omega
      by_cases h3 : x + 1 < W
      · have h3' : (x : Int) + 1 < W := by omega
        have e3 : ((p + 1 : Nat) : Int) = (p : Int) + 1 := by omega
        by_cases h4 : y + 1 < H
        · have h4' : (y : Int) + 1 < H := by omega
          have e4 : ((p + W : Nat) : Int) = (p : Int) + W := by omega
          have HNB := hide (show nbL W H p = [p + 1, p + W] by rw [hNB, if_neg h1, if_neg h2, if_pos h3, if_pos h4]; rfl)
          have mC : p + 1 ∈ nbL W H p := by rw [HNB.out]; simp
          have mD : p + W ∈ nbL W H p := by rw [HNB.out]; simp
          clear hNB
          have hY := HY.out pre ⟨p + 1, mC⟩ _ HJ.out (by rw [HP.out]; simp)
          simp only [e3] at hY
          obtain ⟨fn, tmps, assign, body, hy, hR⟩ := hY
          have HR := hide hR
          clear hR
          gi_wp2_with (refine wpListIn_skip (by rfl) (by rfl) ?_)
          refine HR.out.mono ?_
          rintro e V5 (⟨rfl, hJ5, hk5⟩ | ⟨rfl, hJ5⟩)
          rotate_left
          · have HJ5 := hide hJ5
            clear hy HR hJ5
            gi_wp2_with (refine wpListIn_skip (by rfl) (by rfl) ?_)
            first | refine bodyPost_ret (results_none rfl _ _ _) rfl ?_ | refine bodyPost_end (results_none rfl _ _ _) rfl ?_
            exact ⟨⟨_, rfl⟩, .inr ⟨_, trivial, HJ5.out⟩⟩
          have HJ9 := hide hJ5
          replace Bg0 := hide (blk_keptS Bg0.out hk5 HSG.out)
          replace Bp0 := hide (blk_keptS Bp0.out hk5 HSP.out)
          clear hy HR hJ5 hk5 HJ g3 g4 ltg p0 ltp
          have HJ := HJ9
          clear HJ9
          generalize hpre2 : pre ++ [⟨p + 1, mC⟩] = pre at HJ
          have HP9 := hide (show pre = [⟨p + 1, mC⟩] by rw [← hpre2, HP.out]; try rfl)
          clear HP hpre2
          have HP := HP9
          clear HP9
          have g3 := Bg0.out.c 3 rfl
          have g4 := Bg0.out.c 4 rfl
          have ltg := Bg0.out.lt
          have p0 := Bp0.out.c 0 rfl
          have ltp := Bp0.out.lt
          have hY := HY.out pre ⟨p + W, mD⟩ _ HJ.out (by rw [HP.out]; simp)
          simp only [e4] at hY
          obtain ⟨fn, tmps, assign, body, hy, hR⟩ := hY
          have HR := hide hR
          clear hR
          gi_wp2_with (refine wpListIn_skip (by rfl) (by rfl) ?_)
          refine HR.out.mono ?_
          rintro e V5 (⟨rfl, hJ5, hk5⟩ | ⟨rfl, hJ5⟩)
          rotate_left
          · have HJ5 := hide hJ5
            clear hy HR hJ5
            gi_wp2_with (refine wpListIn_skip (by rfl) (by rfl) ?_)
            first | refine bodyPost_ret (results_none rfl _ _ _) rfl ?_ | refine bodyPost_end (results_none rfl _ _ _) rfl ?_
            exact ⟨⟨_, rfl⟩, .inr ⟨_, trivial, HJ5.out⟩⟩
          have HJ9 := hide hJ5
          replace Bg0 := hide (blk_keptS Bg0.out hk5 HSG.out)
          replace Bp0 := hide (blk_keptS Bp0.out hk5 HSP.out)
          clear hy HR hJ5 hk5 HJ g3 g4 ltg p0 ltp
          have HJ := HJ9
          clear HJ9
          generalize hpre2 : pre ++ [⟨p + W, mD⟩] = pre at HJ
          have HP9 := hide (show pre = [⟨p + 1, mC⟩, ⟨p + W, mD⟩] by rw [← hpre2, HP.out]; try rfl)
          clear HP hpre2
          have HP := HP9
          clear HP9
          have g3 := Bg0.out.c 3 rfl
          have g4 := Bg0.out.c 4 rfl
          have ltg := Bg0.out.lt
          have p0 := Bp0.out.c 0 rfl
          have ltp := Bp0.out.lt
          gi_wp2_with (refine wpListIn_skip (by rfl) (by rfl) ?_)
          refine bodyPost_end (results_none rfl _ _ _) rfl ?_
          exact ⟨⟨_, rfl⟩, .inl ⟨pre, by rw [HP.out]; exact HNB.out.symm, HJ.out⟩⟩
        · have h4' : ¬ (y : Int) + 1 < H := by omega
          have HNB := hide (show nbL W H p = [p + 1] by rw [hNB, if_neg h1, if_neg h2, if_pos h3, if_neg h4]; rfl)
          have mC : p + 1 ∈ nbL W H p := by rw [HNB.out]; simp
          clear hNB
          have hY := HY.out pre ⟨p + 1, mC⟩ _ HJ.out (by rw [HP.out]; simp)
          simp only [e3] at hY
          obtain ⟨fn, tmps, assign, body, hy, hR⟩ := hY
          have HR := hide hR
          clear hR
          gi_wp2_with (refine wpListIn_skip (by rfl) (by rfl) ?_)
          refine HR.out.mono ?_
          rintro e V5 (⟨rfl, hJ5, hk5⟩ | ⟨rfl, hJ5⟩)
          rotate_left
          · have HJ5 := hide hJ5
            clear hy HR hJ5
            gi_wp2_with (refine wpListIn_skip (by rfl) (by rfl) ?_)
            first | refine bodyPost_ret (results_none rfl _ _ _) rfl ?_ | refine bodyPost_end (results_none rfl _ _ _) rfl ?_
            exact ⟨⟨_, rfl⟩, .inr ⟨_, trivial, HJ5.out⟩⟩
          have HJ9 := hide hJ5
          replace Bg0 := hide (blk_keptS Bg0.out hk5 HSG.out)
          replace Bp0 := hide (blk_keptS Bp0.out hk5 HSP.out)
          clear hy HR hJ5 hk5 HJ g3 g4 ltg p0 ltp
          have HJ := HJ9
          clear HJ9
          generalize hpre2 : pre ++ [⟨p + 1, mC⟩] = pre at HJ
          have HP9 := hide (show pre = [⟨p + 1, mC⟩] by rw [← hpre2, HP.out]; try rfl)
          clear HP hpre2
          have HP := HP9
          clear HP9
          have g3 := Bg0.out.c 3 rfl
          have g4 := Bg0.out.c 4 rfl
          have ltg := Bg0.out.lt
          have p0 := Bp0.out.c 0 rfl
          have ltp := Bp0.out.lt
          gi_wp2_with (refine wpListIn_skip (by rfl) (by rfl) ?_)
          refine bodyPost_end (results_none rfl _ _ _) rfl ?_
          exact ⟨⟨_, rfl⟩, .inl ⟨pre, by rw [HP.out]; exact HNB.out.symm, HJ.out⟩⟩
      · have h3' : ¬ (x : Int) + 1 < W := by omega
        by_cases h4 : y + 1 < H
        · have h4' : (y : Int) + 1 < H := by omega
          have e4 : ((p + W : Nat) : Int) = (p : Int) + W := by omega
          have HNB := hide (show nbL W H p = [p + W] by rw [hNB, if_neg h1, if_neg h2, if_neg h3, if_pos h4]; rfl)
          have mD : p + W ∈ nbL W H p := by rw [HNB.out]; simp
          clear hNB
          have hY := HY.out pre ⟨p + W, mD⟩ _ HJ.out (by rw [HP.out]; simp)
          simp only [e4] at hY
          obtain ⟨fn, tmps, assign, body, hy, hR⟩ := hY
          have HR := hide hR
          clear hR
          gi_wp2_with (refine wpListIn_skip (by rfl) (by rfl) ?_)
          refine HR.out.mono ?_
          rintro e V5 (⟨rfl, hJ5, hk5⟩ | ⟨rfl, hJ5⟩)
          rotate_left
          · have HJ5 := hide hJ5
            clear hy HR hJ5
            gi_wp2_with (refine wpListIn_skip (by rfl) (by rfl) ?_)
            first | refine bodyPost_ret (results_none rfl _ _ _) rfl ?_ | refine bodyPost_end (results_none rfl _ _ _) rfl ?_
            exact ⟨⟨_, rfl⟩, .inr ⟨_, trivial, HJ5.out⟩⟩
          have HJ9 := hide hJ5
          replace Bg0 := hide (blk_keptS Bg0.out hk5 HSG.out)
          replace Bp0 := hide (blk_keptS Bp0.out hk5 HSP.out)
          clear hy HR hJ5 hk5 HJ g3 g4 ltg p0 ltp
          have HJ := HJ9
          clear HJ9
          generalize hpre2 : pre ++ [⟨p + W, mD⟩] = pre at HJ
          have HP9 := hide (show pre = [⟨p + W, mD⟩] by rw [← hpre2, HP.out]; try rfl)
          clear HP hpre2
          have HP := HP9
          clear HP9
          have g3 := Bg0.out.c 3 rfl
          have g4 := Bg0.out.c 4 rfl
          have ltg := Bg0.out.lt
          have p0 := Bp0.out.c 0 rfl
          have ltp := Bp0.out.lt
          gi_wp2_with (refine wpListIn_skip (by rfl) (by rfl) ?_)
          refine bodyPost_end (results_none rfl _ _ _) rfl ?_
          exact ⟨⟨_, rfl⟩, .inl ⟨pre, by rw [HP.out]; exact HNB.out.symm, HJ.out⟩⟩
        · have h4' : ¬ (y : Int) + 1 < H := by omega
          have HNB := hide (show nbL W H p = [] by rw [hNB, if_neg h1, if_neg h2, if_neg h3, if_neg h4]; rfl)
          clear hNB
          gi_wp2_with (refine wpListIn_skip (by rfl) (by rfl) ?_)
          refine bodyPost_end (results_none rfl _ _ _) rfl ?_
          exact ⟨⟨_, rfl⟩, .inl ⟨pre, by rw [HP.out]; exact HNB.out.symm, HJ.out⟩⟩
end Go.Proofs.Ytidbjidcjmbnlaa
end
section
namespace Go.Proofs.Ytidbjidcjmbnlaa
open Go Go.RowKit
attribute [local go_sem] Oper.semAt_some

def winB (n lo hi : Int) : Bool := decide (lo ≤ n ∧ n ≤ hi)
theorem mul_bdB {a b A B : Int} (ha : 0 ≤ a) (haA : a ≤ A) (hb : 0 ≤ b) (hbB : b ≤ B) : 0 ≤ a * b ∧ a * b ≤ A * B :=
  ⟨Int.mul_nonneg ha hb, Int.le_trans (Int.mul_le_mul_of_nonneg_right haA hb) (Int.mul_le_mul_of_nonneg_left hbB (by omega))⟩
theorem winB_iff {n lo hi : Int} : winB n lo hi = true ↔ lo ≤ n ∧ n ≤ hi := by simp [winB]
theorem within_any (n lo hi : Int) (w : World) :
    Calls Try.prog 54 #[.int .i64 n, .int .i64 lo, .int .i64 hi] w fun e w' => e = .returned (.bool (winB n lo hi)) ∧ w = w' := by
  by_cases h1 : lo ≤ n <;> by_cases h2 : n ≤ hi
  all_goals
    go_enter Try.func54, Try.ntmps54
    go_wp2
    go_ret
    exact ⟨by simp [winB, *], rfl⟩
def gridE (x y sz wi hi : Int) : Int := if (winB x (-1048576) 1048576 && winB y (-1048576) 1048576 && winB sz 1 10000 && winB wi 1 64 && winB hi 1 64) = true then 0 else 3
theorem gridE_ok {x y sz wi hi : Int} (h : gridE x y sz wi hi = 0) : -1048576 ≤ x ∧ x ≤ 1048576 ∧ -1048576 ≤ y ∧ y ≤ 1048576 ∧ 1 ≤ sz ∧ sz ≤ 10000 ∧ 1 ≤ wi ∧ wi ≤ 64 ∧ 1 ≤ hi ∧ hi ≤ 64 := by
  unfold gridE at h
  split at h
  · rename_i h2
    simp only [Bool.and_eq_true, winB_iff] at h2
    omega
  · omega
def okS (most : Int) (p : Int × Int) : Bool := decide (0 ≤ p.1 ∧ p.1 ≤ p.2 ∧ p.2 ≤ most)
def fieldE (ge : Int) (n : Nat) (wi hi : Int) (l : List (Int × Int)) (most : Int) : Int := if ge ≠ 0 then ge else if (n : Int) ≠ wi * hi then 11 else if l.all (okS most) = true then 0 else 3
def gridV (x y sz wi hi : Int) : Value := .agg #[.int .i64 x, .int .i64 y, .int .i64 sz, .int .i64 wi, .int .i64 hi]
def fieldV (x y sz wi hi : Int) (A : Option Addr) (n c : Nat) : Value := .agg #[.int .i64 x, .int .i64 y, .int .i64 sz, .int .i64 wi, .int .i64 hi, .slice A n c]
theorem Blk.c5 {w : World} {g : Nat} {t : TypeId} {a0 a1 a2 a3 a4 : Value} (h : Blk w g t #[a0, a1, a2, a3, a4]) : w.cell? ⟨g, 0, none⟩ = some a0 ∧ w.cell? ⟨g, 1, none⟩ = some a1 ∧ w.cell? ⟨g, 2, none⟩ = some a2 ∧ w.cell? ⟨g, 3, none⟩ = some a3 ∧ w.cell? ⟨g, 4, none⟩ = some a4 :=
  ⟨h.c 0 rfl, h.c 1 rfl, h.c 2 rfl, h.c 3 rfl, h.c 4 rfl⟩
theorem Blk.c6 {w : World} {g : Nat} {t : TypeId} {a0 a1 a2 a3 a4 a5 : Value} (h : Blk w g t #[a0, a1, a2, a3, a4, a5]) : w.cell? ⟨g, 0, none⟩ = some a0 ∧ w.cell? ⟨g, 1, none⟩ = some a1 ∧ w.cell? ⟨g, 2, none⟩ = some a2 ∧ w.cell? ⟨g, 3, none⟩ = some a3 ∧ w.cell? ⟨g, 4, none⟩ = some a4 ∧ w.cell? ⟨g, 5, none⟩ = some a5 :=
  ⟨h.c 0 rfl, h.c 1 rfl, h.c 2 rfl, h.c 3 rfl, h.c 4 rfl, h.c 5 rfl⟩

set_option maxHeartbeats 2000000 in
set_option maxRecDepth 100000 in
theorem CheckGrid_any (x y sz wi hi : Int) (w : World) :
    Calls Try.prog 21 #[gridV x y sz wi hi] w fun e w' => e = .returned (.int .i64 (gridE x y sz wi hi)) ∧ Below w.heap.size w w' := by
  unfold gridV
  go_enter Try.func21, Try.ntmps21
  have HB := hide (Below.refl w.heap.size w)
  go_wp2_with fail
  refine at_world fun W hW => ?_
  have bq0 : Blk W w.heap.size 28 #[.int .i64 x, .int .i64 y, .int .i64 sz, .int .i64 wi, .int .i64 hi] := by rw [hW]; exact Blk.new _ _ _
  have LW : Later w W := by rw [hW]; exact ((Below.refl _ _).alloc (Nat.le_refl _) _)
  have szW : W.heap.size = w.heap.size + 1 := by rw [hW]; simp
  clear hW
  replace HB := hide (onward HB.out LW)
  have Hs := hide bq0
  clear bq0 LW szW
  obtain ⟨q0, q1, q2, q3, q4⟩ := Hs.out.c5
  have lts := Hs.out.lt
  refine (within_any _ _ _ _).mono ?_
  rintro e w' ⟨rfl, rfl⟩
  go_wp2_with (go_at_call 54; refine (within_any _ _ _ _).mono ?_; rintro e w' ⟨rfl, rfl⟩)
  all_goals
    go_ret
    simp only [Bool.not_eq_true', Bool.not_eq_false'] at *
    refine ⟨ret_int ?_, HB.out⟩
    first | (simp [gridE, *]; done) | (exfalso; clear HB Hs q0 q1 q2 q3 q4; simp_all; done)
def flat2 : List (Int × Int) → List Int
  | [] => []
  | p :: l => p.1 :: p.2 :: flat2 l
theorem flat2_length : ∀ l : List (Int × Int), (flat2 l).length = l.length * 2
  | [] => rfl
  | p :: l => by simp [flat2, flat2_length l]; omega
theorem flat2_get : ∀ (l : List (Int × Int)) (k : Nat), k < l.length → (flat2 l).getD (k * 2) 0 = (l.getD k (0, 0)).1 ∧ (flat2 l).getD (k * 2 + 1) 0 = (l.getD k (0, 0)).2
  | [], k, h => by simp at h
  | p :: l, 0, _ => ⟨rfl, rfl⟩
  | p :: l, k + 1, h => by
    have := flat2_get l k (by simpa using h)
    rw [show (k + 1) * 2 = k * 2 + 1 + 1 by omega]
    simpa [flat2, List.getD] using this
/-- A list of pairs, read. -/
theorem Ints.pt {w : World} {B : Nat} {A : Option Addr} {l : List (Int × Int)} (h : Ints w B .i64 A (flat2 l)) (hl : 0 < l.length) : ∃ b off, A = some ⟨b, off, none⟩ ∧ b < B ∧ ∀ k, k < l.length → w.cell? ⟨b, off + k * 2, none⟩ = some (.int .i64 (l.getD k (0, 0)).1) ∧ w.cell? ⟨b, off + k * 2 + 1, none⟩ = some (.int .i64 (l.getD k (0, 0)).2) := by
  obtain ⟨b, off, e, hb, hc⟩ := h (by rw [flat2_length]; omega)
  refine ⟨b, off, e, hb, fun k hk => ?_⟩
  obtain ⟨h1, h2⟩ := flat2_get l k hk
  rw [← h1, ← h2]
  exact ⟨hc _ (by rw [flat2_length]; omega), by have := hc (k * 2 + 1) (by rw [flat2_length]; omega); rwa [show off + (k * 2 + 1) = off + k * 2 + 1 by omega] at this⟩
theorem all_okS {l : List (Int × Int)} {most : Int} (h : ∀ j, j < l.length → okS most (l.getD j (0, 0)) = true) : l.all (okS most) = true := by
  rw [List.all_eq_true]
  intro x hx
  obtain ⟨j, hj, rfl⟩ := List.mem_iff_getElem.1 hx
  have := h j hj
  simpa [List.getD, hj] using this
theorem not_all_okS {l : List (Int × Int)} {most : Int} {j : Nat} (hj : j < l.length) (h : okS most (l.getD j (0, 0)) = false) : l.all (okS most) = false := by
  rw [List.all_eq_false]
  refine ⟨l[j], List.getElem_mem hj, ?_⟩
  have e : l.getD j (0, 0) = l[j] := by simp [List.getD, hj]
  rw [← e, h]
  simp

set_option maxHeartbeats 2000000 in
set_option maxRecDepth 100000 in
theorem check_any (x y sz wi hi : Int) (A : Option Addr) (n c : Nat) (l : List (Int × Int)) (most : Int) (w : World) (hn : l.length = n) (hmax : n ≤ 9223372036854775807) (hl : Ints w w.heap.size .i64 A (flat2 l)) :
    Calls Try.prog 56 #[fieldV x y sz wi hi A n c, .int .i64 most] w fun e w' => e = .returned (.int .i64 (fieldE (gridE x y sz wi hi) n wi hi l most)) ∧ Below w.heap.size w w' := by
  have hg := fun W => CheckGrid_any x y sz wi hi W
  have hR : ∀ ge, gridE x y sz wi hi = ge → fieldE (gridE x y sz wi hi) n wi hi l most = if ge ≠ 0 then ge else if (n : Int) ≠ wi * hi then 11 else if l.all (okS most) = true then 0 else 3 := fun ge h => by rw [h]; rfl
  obtain ⟨ge, hge⟩ : ∃ ge, gridE x y sz wi hi = ge := ⟨_, rfl⟩
  replace hR := hR ge hge
  have hok := fun h : ge = 0 => gridE_ok (hge.trans h)
  generalize fieldE (gridE x y sz wi hi) n wi hi l most = res at *
  rw [hge] at hg
  unfold gridV at hg
  unfold fieldV
  clear hge
  have Hg := hide hg
  have Hok := hide hok
  have Hl := hide hl
  have Hn := hide hn
  clear hg hok hl hn
  by_cases h0 : ge = 0
  · subst h0
    obtain ⟨-, -, -, -, -, -, s1, s2, s3, s4⟩ := Hok.out rfl
    obtain ⟨m1, m2⟩ := mul_bdB (a := wi) (b := hi) (A := 64) (B := 64) (by omega) s2 (by omega) s4
    rw [if_neg (by simp)] at hR
    by_cases h1 : (n : Int) = wi * hi
    · rw [if_neg (by simpa using h1)] at hR
      have h1' : ((n : Int) != wi * hi) = false := by simp [h1]
      have hn4 : (n : Int) ≤ 4096 := by omega
      have HR := hide hR
      have H1 := hide h1
      clear hR h1
      go_enter Try.func56, Try.ntmps56
      have HB := hide (Below.refl w.heap.size w)
      go_wp2_with fail
      refine at_world fun W hW => ?_
      have bq0 : Blk W w.heap.size 41 #[.int .i64 x, .int .i64 y, .int .i64 sz, .int .i64 wi, .int .i64 hi, .slice A n c] := by rw [hW]; exact Blk.new _ _ _
      have LW : Later w W := by rw [hW]; exact ((Below.refl _ _).alloc (Nat.le_refl _) _)
      have szW : W.heap.size = w.heap.size + 1 := by rw [hW]; simp
      clear hW
      replace HB := hide (onward HB.out LW)
      have Hf := hide bq0
      clear bq0 LW szW
      refine (Hg.out _).mono ?_
      rintro e w1 ⟨rfl, hb⟩
      replace HB := hide (onward HB.out hb)
      replace Hf := hide (blk_later Hf.out hb)
      clear hb
      obtain ⟨q0, q1, q2, q3, q4, q5⟩ := Hf.out.c6
      have ltf := Hf.out.lt
      go_wp2_with fail
      go_loopw [28] (fun i wr => ∃ k : Nat, k ≤ n ∧ i = .int .i64 k ∧ Below w.heap.size w wr ∧ ∀ j, j < k → okS most (l.getD j (0, 0)) = true) (fun i _ => n - (intOf i).toNat)
      case atStart => exact ⟨0, by omega, rfl, HB.out, fun j hj => by omega⟩
      case round =>
        clear HB Hf q0 q1 q2 q3 q4 q5 ltf
        obtain ⟨k, hk, rfl, hbw, hall⟩ := hrel
        have HB := hide hbw
        have Hall := hide hall
        clear hbw hall
        have hsw := HB.out.size
        by_cases hlt : k < n
        · obtain ⟨b, off, rfl, hb, hc⟩ := Hl.out.pt (by have := Hn.out; omega)
          obtain ⟨p0, p1⟩ := hc k (by have := Hn.out; omega)
          rw [← HB.out.cell hb] at p0 p1
          have hnn := fun h => not_all_okS (l := l) (most := most) (j := k) (by have := Hn.out; omega) h
          have hok1 : okS most (l.getD k (0, 0)) = true → ∀ j, j < k + 1 → okS most (l.getD j (0, 0)) = true := fun h j hj => by
            rcases Nat.lt_or_ge j k with h1 | h1
            · exact Hall.out j h1
            · obtain rfl : j = k := by omega
              exact h
          generalize l.getD k (0, 0) = m at *
          obtain ⟨m1', m2'⟩ := m
          simp only at p0 p1
          have hdec : okS most (m1', m2') = decide (0 ≤ m1' ∧ m1' ≤ m2' ∧ m2' ≤ most) := rfl
          rw [hdec] at hnn hok1
          have Hnn := hide hnn
          have Hok1 := hide hok1
          clear hnn hok1
          clear hc hdec
          by_cases g1 : m1' < 0
          · have HR2 := hide (HR.out.trans (if_neg (by rw [Hnn.out (decide_eq_false (by omega))]; simp)))
            go_wp2
            go_ret
            refine ⟨ret_int HR2.out.symm, ?_⟩
            repeat (first | exact HB.out | (refine Below.setCell ?_ (by first | omega | (simp; done) | (simp; omega)) _) | (refine Below.alloc ?_ (by first | omega | (simp; done) | (simp; omega)) _) | (refine below_drewN ?_ _))
          by_cases g2 : m2' < m1'
          · have HR2 := hide (HR.out.trans (if_neg (by rw [Hnn.out (decide_eq_false (by omega))]; simp)))
            go_wp2
            go_ret
            refine ⟨ret_int HR2.out.symm, ?_⟩
            repeat (first | exact HB.out | (refine Below.setCell ?_ (by first | omega | (simp; done) | (simp; omega)) _) | (refine Below.alloc ?_ (by first | omega | (simp; done) | (simp; omega)) _) | (refine below_drewN ?_ _))
          by_cases g3 : most < m2'
          · have HR2 := hide (HR.out.trans (if_neg (by rw [Hnn.out (decide_eq_false (by omega))]; simp)))
            go_wp2
            go_ret
            refine ⟨ret_int HR2.out.symm, ?_⟩
            repeat (first | exact HB.out | (refine Below.setCell ?_ (by first | omega | (simp; done) | (simp; omega)) _) | (refine Below.alloc ?_ (by first | omega | (simp; done) | (simp; omega)) _) | (refine below_drewN ?_ _))
          · have Hk2 := hide (Hok1.out (decide_eq_true (by omega)))
            go_wp2
            go_roundw
            case rel =>
              refine ⟨k + 1, by omega, by go_num, ?_, Hk2.out⟩
              repeat (first | exact HB.out | (refine Below.setCell ?_ (by first | omega | (simp; done) | (simp; omega)) _) | (refine Below.alloc ?_ (by first | omega | (simp; done) | (simp; omega)) _) | (refine below_drewN ?_ _))
            case measure => simp [intOf] <;> omega
        · obtain rfl : k = n := by omega
          have HR2 := hide (HR.out.trans (if_pos (all_okS fun j hj => Hall.out j (by have := Hn.out; omega))))
          go_wp2
          go_ret
          exact ⟨ret_int HR2.out.symm, HB.out⟩
    · rw [if_pos h1] at hR
      have h1' : ((n : Int) != wi * hi) = true := by simpa [bne] using h1
      have HR := hide hR
      clear hR
      go_enter Try.func56, Try.ntmps56
      have HB := hide (Below.refl w.heap.size w)
      go_wp2_with fail
      refine at_world fun W hW => ?_
      have bq0 : Blk W w.heap.size 41 #[.int .i64 x, .int .i64 y, .int .i64 sz, .int .i64 wi, .int .i64 hi, .slice A n c] := by rw [hW]; exact Blk.new _ _ _
      have LW : Later w W := by rw [hW]; exact ((Below.refl _ _).alloc (Nat.le_refl _) _)
      have szW : W.heap.size = w.heap.size + 1 := by rw [hW]; simp
      clear hW
      replace HB := hide (onward HB.out LW)
      have Hf := hide bq0
      clear bq0 LW szW
      refine (Hg.out _).mono ?_
      rintro e w1 ⟨rfl, hb⟩
      replace HB := hide (onward HB.out hb)
      replace Hf := hide (blk_later Hf.out hb)
      clear hb
      obtain ⟨q0, q1, q2, q3, q4, q5⟩ := Hf.out.c6
      have ltf := Hf.out.lt
      go_wp2
      go_ret
      exact ⟨ret_int HR.out.symm, HB.out⟩
  · rw [if_pos h0] at hR
    have h00 : (ge != 0) = true := by simpa [bne] using h0
    have HR := hide hR
    clear hR
    go_enter Try.func56, Try.ntmps56
    have HB := hide (Below.refl w.heap.size w)
    go_wp2_with fail
    refine at_world fun W hW => ?_
    have bq0 : Blk W w.heap.size 41 #[.int .i64 x, .int .i64 y, .int .i64 sz, .int .i64 wi, .int .i64 hi, .slice A n c] := by rw [hW]; exact Blk.new _ _ _
    have LW : Later w W := by rw [hW]; exact ((Below.refl _ _).alloc (Nat.le_refl _) _)
    have szW : W.heap.size = w.heap.size + 1 := by rw [hW]; simp
    clear hW
    replace HB := hide (onward HB.out LW)
    have Hf := hide bq0
    clear bq0 LW szW
    refine (Hg.out _).mono ?_
    rintro e w1 ⟨rfl, hb⟩
    replace HB := hide (onward HB.out hb)
    replace Hf := hide (blk_later Hf.out hb)
    clear hb
    obtain ⟨q0, q1, q2, q3, q4, q5⟩ := Hf.out.c6
    have ltf := Hf.out.lt
    go_wp2
    go_ret
    exact ⟨ret_int HR.out.symm, HB.out⟩
set_option maxRecDepth 100000 in
theorem CheckField_any (x y sz wi hi : Int) (A : Option Addr) (n c : Nat) (l : List (Int × Int)) (w : World) (hn : l.length = n) (hmax : n ≤ 9223372036854775807) (hl : Ints w w.heap.size .i64 A (flat2 l)) :
    Calls Try.prog 28 #[fieldV x y sz wi hi A n c] w fun e w' => e = .returned (.int .i64 (fieldE (gridE x y sz wi hi) n wi hi l 1073741824)) ∧ Below w.heap.size w w' := by
  have hc := fun W (hB : Below w.heap.size w W) => check_any x y sz wi hi A n c l 1073741824 W hn hmax ((hl.below hB).more hB.size)
  generalize fieldE (gridE x y sz wi hi) n wi hi l 1073741824 = res at *
  unfold fieldV at *
  have Hc := hide hc
  clear hc
  clear hn hl
  go_enter Try.func28, Try.ntmps28
  have HB := hide (Below.refl w.heap.size w)
  go_wp2_with fail
  refine at_world fun W hW => ?_
  have bq0 : Blk W w.heap.size 41 #[.int .i64 x, .int .i64 y, .int .i64 sz, .int .i64 wi, .int .i64 hi, .slice A n c] := by rw [hW]; exact Blk.new _ _ _
  have LW : Later w W := by rw [hW]; exact ((Below.refl _ _).alloc (Nat.le_refl _) _)
  have szW : W.heap.size = w.heap.size + 1 := by rw [hW]; simp
  clear hW
  replace HB := hide (onward HB.out LW)
  have Hf := hide bq0
  clear bq0 LW szW
  refine (Hc.out _ HB.out).mono ?_
  rintro e w1 ⟨rfl, hb⟩
  replace HB := hide (onward HB.out hb)
  replace Hf := hide (blk_later Hf.out hb)
  clear hb
  go_wp2
  go_ret
  exact ⟨rfl, HB.out⟩
end Go.Proofs.Ytidbjidcjmbnlaa
end
