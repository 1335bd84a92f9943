/-
  The law's works(): a direction and a ground range of the example's site.
  Ground ranges of gates: the program's contracts; and the law's works().
-/
import Derived.Test.YtllpffkifleigaaRegG
import Derived.Test.YtllpffkifleigaaShelfW
import Derived.LoopN
set_option linter.unusedSimpArgs false
set_option linter.unusedVariables false
section
namespace Go.Proofs.Ytllpffkifleigaa
open Go.RowKit

theorem c_s (w : World) : Calls Try.prog 125 #[.int .i32 115] w fun e w' => e = .returned (.bool false) ∧ w = w' := by
  have hc := fun (W : World) => Try.strings_ContainsRune_ascii ⟨#[97, 98, 99, 100, 101, 102, 103, 104, 105, 106, 107, 108, 109, 110, 111, 112, 113, 114, 115, 116, 117, 118, 119, 120, 121, 122, 48, 49, 50, 51, 52, 53, 54, 55, 56, 57, 95]⟩ 115 W (by decide) (by decide)
  have hd : ∀ W : World, Calls Try.prog 126 #[.string ⟨#[97, 98, 99, 100, 101, 102, 103, 104, 105, 106, 107, 108, 109, 110, 111, 112, 113, 114, 115, 116, 117, 118, 119, 120, 121, 122, 48, 49, 50, 51, 52, 53, 54, 55, 56, 57, 95]⟩, .int .i32 115] W fun e w' => e = .returned (.bool true) ∧ W = w' := fun W => (hc W).mono fun e w' ⟨h1, h2⟩ => ⟨h1.trans (by rfl), h2.symm⟩
  have Hd := hide hd
  clear hc hd
  go_enter Try.func125, Try.ntmps125
  go_wp2_with fail
  refine (Hd.out _).mono ?_
  rintro e w' ⟨rfl, rfl⟩
  go_wp2
  go_ret
  exact ⟨rfl, rfl⟩
theorem idx_s (w : World) : Calls Try.prog 135 #[.string ⟨#[115]⟩, .func (.func 125) #[] #[], .bool true] w fun e w' => e = .returned (.int .i64 (-1)) ∧ Below w.heap.size w w' := by
  have n0 := fun ty => run_next_ascii (P := Try.prog) w ⟨#[115]⟩ 0 ty (by decide) (by decide)
  have n1 := fun ty => run_next_end (P := Try.prog) w ⟨#[115]⟩ 1 ty (by decide)
  go_enter Try.func135, Try.ntmps135
  go_wp2_with fail
  refine wp_loop_rounds 2 ?_
  rw [rounds_succ]
  go_wp2_with fail
  refine (c_s _).mono ?_
  rintro e w' ⟨rfl, rfl⟩
  go_wp2_with fail
  rw [rounds_succ]
  go_wp2
  go_ret
  refine ⟨rfl, ?_⟩
  exact (Below.refl _ _).alloc (Nat.le_refl _) _
theorem cf_s (w : World) : Calls Try.prog 124 #[.string ⟨#[115]⟩, .func (.func 125) #[] #[]] w fun e w' => e = .returned (.bool false) ∧ Below w.heap.size w w' := by
  have hi : ∀ W : World, Calls Try.prog 132 #[.string ⟨#[115]⟩, .func (.func 125) #[] #[]] W fun e w' => e = .returned (.int .i64 (-1)) ∧ Below W.heap.size W w' := fun W => by
    go_enter Try.func132, Try.ntmps132
    go_wp2_with fail
    refine (idx_s _).mono ?_
    rintro e w1 ⟨rfl, hb⟩
    go_wp2
    go_ret
    exact ⟨rfl, hb⟩
  have Hi := hide hi
  clear hi
  go_enter Try.func124, Try.ntmps124
  go_wp2_with fail
  refine (Hi.out _).mono ?_
  rintro e w1 ⟨rfl, hb⟩
  go_wp2
  go_ret
  exact ⟨rfl, hb⟩
theorem Name_s (w : World) : Calls Try.prog 106 #[.string ⟨#[115]⟩] w fun e w' => e = .returned (.bool true) ∧ Below w.heap.size w w' := by
  go_enter Try.func106, Try.ntmps106
  go_wp2_with fail
  refine (cf_s _).mono ?_
  rintro e w1 ⟨rfl, hb⟩
  go_wp2
  go_ret
  exact ⟨rfl, hb⟩
end Go.Proofs.Ytllpffkifleigaa
end
section
namespace Go.Proofs.Ytllpffkifleigaa
open Go.RowKit

def reachN (st gate t : Int) : Int := (2 * gate + 1) * st * (262144 - t * t)
def reachD (t : Int) : Int := 2 * (262144 + t * t)
theorem reach_bd {st gate t : Int} (h1 : -8 ≤ t) (h2 : t ≤ 264) (h3 : 0 ≤ gate) (h4 : gate ≤ 199) (h5 : 0 ≤ st) (h6 : st ≤ 2000) :
    0 ≤ t * t ∧ t * t ≤ 69696 ∧ 0 ≤ (2 * gate + 1) * st ∧ (2 * gate + 1) * st ≤ 798000 ∧ 0 ≤ (2 * gate + 1) * st * (262144 - t * t) ∧ (2 * gate + 1) * st * (262144 - t * t) ≤ 209190912000 := by
  obtain ⟨a, b⟩ := tilt_bd h1 h2
  obtain ⟨c, d⟩ := mul_bdB (a := 2 * gate + 1) (b := st) (A := 399) (B := 2000) (by omega) (by omega) h5 h6
  obtain ⟨e, f⟩ := mul_bdB (a := (2 * gate + 1) * st) (b := 262144 - t * t) (A := 798000) (B := 262144) c (by omega) (by omega) (by omega)
  exact ⟨a, b, c, by omega, e, by omega⟩
/-- A function that rounds quotients. -/
def RoundF (fid : FuncId) (f : Int → Int → Int) : Prop := ∀ (a b : Int) (W : World), 1 ≤ b → b ≤ 4611686018427387903 → -4611686018427387903 ≤ a → a ≤ 4611686018427387903 → Calls Try.prog fid #[.int .i64 a, .int .i64 b] W fun e w' => e = .returned (.int .i64 (f a b)) ∧ W = w'
def siteV (s : ByteArray) (x y z r g st wd : Int) : Value := .agg #[.string s, .int .i64 x, .int .i64 y, .int .i64 z, .int .i64 r, .int .i64 g, .int .i64 st, .int .i64 wd]

/-- What Ground answers. -/
def groundR (e t gate g st : Int) : (Int × Int) × Int :=
  if e ≠ 0 then ((0, 0), e) else if (winBQ t 0 256 && winBQ gate 0 (g - 1)) = true then ((reachN st gate t / reachD t, cdiv (reachN st gate t) (reachD t)), 0) else ((0, 0), 3)
def spanV (s : Int × Int) : Value := .agg #[.int .i64 s.1, .int .i64 s.2]
def spanE (s : (Int × Int) × Int) : Value := .tuple #[.agg #[.int .i64 s.1.1, .int .i64 s.1.2], .int .i64 s.2]
theorem siteE_ok {nb : Bool} {x y z r g st wd : Int} (h : siteE nb x y z r g st wd = 0) : nb = true ∧ -1048576 ≤ x ∧ x ≤ 1048576 ∧ -1048576 ≤ y ∧ y ≤ 1048576 ∧ 0 ≤ z ∧ z ≤ 20000 ∧ 1 ≤ r ∧ r ≤ 90 ∧ 1 ≤ g ∧ g ≤ 200 ∧ 50 ≤ st ∧ st ≤ 2000 ∧ 0 ≤ wd ∧ wd ≤ 8 := by
  unfold siteE at h
  split at h
  · omega
  · split at h
    · rename_i h1 h2
      simp only [Bool.and_eq_true, winB_iff] at h2
      cases nb
      · exact absurd rfl h1
      · exact ⟨rfl, by omega⟩
    · omega

end Go.Proofs.Ytllpffkifleigaa
end
