/-
  The law's works(): a direction and a ground range of the example's site.
-/
import Derived.Test.YthhhecidogcmjaaBeam1
import Derived.Test.YthhhecidogcmjaaShelf
import Derived.LoopN
namespace Go.Proofs.Ythhhecidogcmjaa
open Go.RowKit

theorem c_s (w : World) : Calls Try.prog 61 #[.int .i32 115] w fun e w' => e = .returned (.bool false) ∧ w = w' := by
  have hc := fun (W : World) => Try.strings_ContainsRune_ascii ⟨#[97, 98, 99, 100, 101, 102, 103, 104, 105, 106, 107, 108, 109, 110, 111, 112, 113, 114, 115, 116, 117, 118, 119, 120, 121, 122, 48, 49, 50, 51, 52, 53, 54, 55, 56, 57, 95]⟩ 115 W (by decide) (by decide)
  have hd : ∀ W : World, Calls Try.prog 62 #[.string ⟨#[97, 98, 99, 100, 101, 102, 103, 104, 105, 106, 107, 108, 109, 110, 111, 112, 113, 114, 115, 116, 117, 118, 119, 120, 121, 122, 48, 49, 50, 51, 52, 53, 54, 55, 56, 57, 95]⟩, .int .i32 115] W fun e w' => e = .returned (.bool true) ∧ W = w' := fun W => (hc W).mono fun e w' ⟨h1, h2⟩ => ⟨h1.trans (by rfl), h2.symm⟩
  have Hd := hide hd
  clear hc hd
  go_enter Try.func61, Try.ntmps61
  go_wp2_with fail
  refine (Hd.out _).mono ?_
  rintro e w' ⟨rfl, rfl⟩
  go_wp2
  go_ret
  exact ⟨rfl, rfl⟩
theorem idx_s (w : World) : Calls Try.prog 91 #[.string ⟨#[115]⟩, .func (.func 61) #[] #[], .bool true] w fun e w' => e = .returned (.int .i64 (-1)) ∧ Below w.heap.size w w' := by
  have n0 := fun ty => run_next_ascii (P := Try.prog) w ⟨#[115]⟩ 0 ty (by decide) (by decide)
  have n1 := fun ty => run_next_end (P := Try.prog) w ⟨#[115]⟩ 1 ty (by decide)
  go_enter Try.func91, Try.ntmps91
  go_wp2_with fail
  refine wp_loop_rounds 2 ?_
  rw [rounds_succ]
  go_wp2_with fail
  refine (c_s _).mono ?_
  rintro e w' ⟨rfl, rfl⟩
  go_wp2_with fail
  rw [rounds_succ]
  go_wp2
  go_ret
  refine ⟨rfl, ?_⟩
  exact (Below.refl _ _).alloc (Nat.le_refl _) _
theorem cf_s (w : World) : Calls Try.prog 60 #[.string ⟨#[115]⟩, .func (.func 61) #[] #[]] w fun e w' => e = .returned (.bool false) ∧ Below w.heap.size w w' := by
  have hi : ∀ W : World, Calls Try.prog 83 #[.string ⟨#[115]⟩, .func (.func 61) #[] #[]] W fun e w' => e = .returned (.int .i64 (-1)) ∧ Below W.heap.size W w' := fun W => by
    go_enter Try.func83, Try.ntmps83
    go_wp2_with fail
    refine (idx_s _).mono ?_
    rintro e w1 ⟨rfl, hb⟩
    go_wp2
    go_ret
    exact ⟨rfl, hb⟩
  have Hi := hide hi
  clear hi
  go_enter Try.func60, Try.ntmps60
  go_wp2_with fail
  refine (Hi.out _).mono ?_
  rintro e w1 ⟨rfl, hb⟩
  go_wp2
  go_ret
  exact ⟨rfl, hb⟩
theorem Name_s (w : World) : Calls Try.prog 20 #[.string ⟨#[115]⟩] w fun e w' => e = .returned (.bool true) ∧ Below w.heap.size w w' := by
  go_enter Try.func20, Try.ntmps20
  go_wp2_with fail
  refine (cf_s _).mono ?_
  rintro e w1 ⟨rfl, hb⟩
  go_wp2
  go_ret
  exact ⟨rfl, hb⟩
end Go.Proofs.Ythhhecidogcmjaa
