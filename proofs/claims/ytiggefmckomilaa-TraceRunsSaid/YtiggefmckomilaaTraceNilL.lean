/-
  The law TraceNil returns true.
-/
import Derived.Test.YtiggefmckomilaaTraceNilF
import Derived.Test.YtiggefmckomilaaTraceWorks
set_option linter.unusedSimpArgs false
set_option linter.unusedVariables false
namespace Go.Proofs.Ytiggefmckomilaa
open Go Go.RowKit

def actV (k : Int) (nm pr : ByteArray) (lo hi tm un n : Int) : Array Value := #[.int .i64 k, .string nm, .string pr, .int .i64 lo, .int .i64 hi, .int .i64 tm, .int .i64 un, .int .i64 n]
set_option maxRecDepth 100000 in
theorem actTest_any (k : Int) (nm pr : ByteArray) (lo hi tm un n : Int) (w : World) :
    Calls Try.prog 46 #[.agg (actV k nm pr lo hi tm un n)] w fun e w' => e = .returned (.agg #[.string nm, .string pr, .int .i64 tm, .int .i64 lo, .int .i64 hi]) ∧ Below w.heap.size w w' := by
  unfold actV
  go_enter Try.func46, Try.ntmps46
  go_wp2
  refine bodyPost_ret (v := .agg #[.string nm, .string pr, .int .i64 tm, .int .i64 lo, .int .i64 hi]) (by simp [results, Try.results46, go_sem]) rfl ⟨rfl, ?_⟩
  repeat (first | exact Below.refl _ _ | (refine Below.setCell ?_ (by first | omega | (simp; done) | (simp; omega)) _) | (refine Below.alloc ?_ (by first | omega | (simp; done) | (simp; omega)) _) | (refine below_drewN ?_ _))
set_option maxRecDepth 100000 in
theorem actStd_any (k : Int) (nm pr : ByteArray) (lo hi tm un n : Int) (w : World) :
    Calls Try.prog 45 #[.agg (actV k nm pr lo hi tm un n)] w fun e w' => e = .returned (.agg #[.string nm, .string pr, .int .i64 lo, .int .i64 hi, .int .i64 tm, .int .i64 un, .int .i64 n]) ∧ Below w.heap.size w w' := by
  unfold actV
  go_enter Try.func45, Try.ntmps45
  go_wp2
  refine bodyPost_ret (v := .agg #[.string nm, .string pr, .int .i64 lo, .int .i64 hi, .int .i64 tm, .int .i64 un, .int .i64 n]) (by simp [results, Try.results45, go_sem]) rfl ⟨rfl, ?_⟩
  repeat (first | exact Below.refl _ _ | (refine Below.setCell ?_ (by first | omega | (simp; done) | (simp; omega)) _) | (refine Below.alloc ?_ (by first | omega | (simp; done) | (simp; omega)) _) | (refine below_drewN ?_ _))

end Go.Proofs.Ytiggefmckomilaa
