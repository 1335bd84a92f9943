/-
  What is no book: each call's answer.
-/
import Derived.Test.YtiggefmckomilaaTraceBook
import Derived.Test.YtiggefmckomilaaTraceNew
import Derived.Test.YtiggefmckomilaaTraceState
import Derived.WalkMore
namespace Go.Proofs.Ytiggefmckomilaa
open Go Go.RowKit

def NilB (w : World) (v : Value) : Prop := v = .pointer none ∨ ∃ p, v = .pointer (some ⟨p, 0, none⟩) ∧ Blk w p 98 #[.bool false, .map none, .map none, .slice none 0 0, .slice none 0 0, .map none, .map none, .slice none 0 0]
theorem NilB.later {w w' : World} {v : Value} (h : NilB w v) (hb : Below w.heap.size w w') : NilB w' v := by
  rcases h with h | ⟨p, h, hk⟩
  · exact .inl h
  · exact .inr ⟨p, h, hk.below hb hk.lt⟩
theorem NilB.alloc {w : World} {v : Value} (h : NilB w v) (o : Obj) : NilB (w.alloc o) v := h.later ((Below.refl _ _).alloc (Nat.le_refl _) _)

theorem nil_state (v : Value) (w : World) (h : NilB w v) : Calls Try.prog 58 #[v] w fun e w' => e = .returned (.int .i64 1) ∧ w = w' := by
  rcases h with rfl | ⟨p, rfl, hk⟩
  · go_enter Try.func58, Try.ntmps58
    go_wp2
    go_ret
    exact ⟨rfl, rfl⟩
  · obtain ⟨x0, x1, x2, x3, x4, x5, x6, x7⟩ := hk.c8
    have ltx := hk.lt
    go_enter Try.func58, Try.ntmps58
    go_wp2
    go_ret
    exact ⟨rfl, rfl⟩

theorem nil_Entries (v : Value) (w : World) (h : NilB w v) : Calls Try.prog 34 #[v] w fun e w' => e = .returned (.int .i64 0) ∧ Below w.heap.size w w' := by
  rcases h with rfl | ⟨p, rfl, hk⟩
  · go_enter Try.func34, Try.ntmps34
    go_wp2
    go_ret
    exact ⟨rfl, Below.refl _ _⟩
  · obtain ⟨x0, x1, x2, x3, x4, x5, x6, x7⟩ := hk.c8
    have ltx := hk.lt
    go_enter Try.func34, Try.ntmps34
    go_wp2
    go_ret
    exact ⟨rfl, Below.refl _ _⟩
theorem nil_Copy (v : Value) (w : World) (h : NilB w v) : Calls Try.prog 37 #[v] w fun e w' => e = .returned (.pointer none) ∧ Below w.heap.size w w' := by
  rcases h with rfl | ⟨p, rfl, hk⟩
  · go_enter Try.func37, Try.ntmps37
    go_wp2
    go_ret
    exact ⟨rfl, Below.refl _ _⟩
  · obtain ⟨x0, x1, x2, x3, x4, x5, x6, x7⟩ := hk.c8
    have ltx := hk.lt
    go_enter Try.func37, Try.ntmps37
    go_wp2
    go_ret
    exact ⟨rfl, Below.refl _ _⟩

set_option maxHeartbeats 2000000 in
set_option maxRecDepth 100000 in
theorem nil_Value (v : Value) (n : ByteArray) (t : Int) (w : World) (h : NilB w v) : Calls Try.prog 22 #[v, .string n, .int .i64 t] w fun e w' => e = .returned (.tuple #[.agg #[.int .i64 0, .int .i64 0], .int .i64 1]) ∧ Below w.heap.size w w' := by
  rcases h with rfl | ⟨p, rfl, hk⟩
  · go_enter Try.func22, Try.ntmps22
    go_wp2
    refine bodyPost_ret (v := .tuple #[.agg #[.int .i64 0, .int .i64 0], .int .i64 1]) (by simp [results, Try.results22, go_sem]) rfl ⟨rfl, ?_⟩
    repeat (first | exact Below.refl _ _ | (refine Below.setCell ?_ (by first | omega | (simp; done) | (simp; omega)) _) | (refine Below.alloc ?_ (by first | omega | (simp; done) | (simp; omega)) _) | (refine below_drewN ?_ _))
  · obtain ⟨x0, x1, x2, x3, x4, x5, x6, x7⟩ := hk.c8
    have ltx := hk.lt
    go_enter Try.func22, Try.ntmps22
    go_wp2
    refine bodyPost_ret (v := .tuple #[.agg #[.int .i64 0, .int .i64 0], .int .i64 1]) (by simp [results, Try.results22, go_sem]) rfl ⟨rfl, ?_⟩
    repeat (first | exact Below.refl _ _ | (refine Below.setCell ?_ (by first | omega | (simp; done) | (simp; omega)) _) | (refine Below.alloc ?_ (by first | omega | (simp; done) | (simp; omega)) _) | (refine below_drewN ?_ _))
set_option maxHeartbeats 2000000 in
set_option maxRecDepth 100000 in
theorem nil_Back (v : Value) (t : Int) (w : World) (h : NilB w v) : Calls Try.prog 38 #[v, .int .i64 t] w fun e w' => e = .returned (.tuple #[.pointer none, .int .i64 1]) ∧ Below w.heap.size w w' := by
  rcases h with rfl | ⟨p, rfl, hk⟩
  · go_enter Try.func38, Try.ntmps38
    go_wp2
    refine bodyPost_ret (v := .tuple #[.pointer none, .int .i64 1]) (by simp [results, Try.results38, go_sem]) rfl ⟨rfl, ?_⟩
    repeat (first | exact Below.refl _ _ | (refine Below.setCell ?_ (by first | omega | (simp; done) | (simp; omega)) _) | (refine Below.alloc ?_ (by first | omega | (simp; done) | (simp; omega)) _) | (refine below_drewN ?_ _))
  · obtain ⟨x0, x1, x2, x3, x4, x5, x6, x7⟩ := hk.c8
    have ltx := hk.lt
    go_enter Try.func38, Try.ntmps38
    go_wp2
    refine bodyPost_ret (v := .tuple #[.pointer none, .int .i64 1]) (by simp [results, Try.results38, go_sem]) rfl ⟨rfl, ?_⟩
    repeat (first | exact Below.refl _ _ | (refine Below.setCell ?_ (by first | omega | (simp; done) | (simp; omega)) _) | (refine Below.alloc ?_ (by first | omega | (simp; done) | (simp; omega)) _) | (refine below_drewN ?_ _))
set_option maxHeartbeats 2000000 in
set_option maxRecDepth 100000 in
theorem nil_Chain (v : Value) (t : Int) (w : World) (h : NilB w v) : Calls Try.prog 40 #[v, .int .i64 t] w fun e w' => e = .returned (.tuple #[.slice none 0 0, .int .i64 1]) ∧ Below w.heap.size w w' := by
  rcases h with rfl | ⟨p, rfl, hk⟩
  · go_enter Try.func40, Try.ntmps40
    go_wp2
    refine bodyPost_ret (v := .tuple #[.slice none 0 0, .int .i64 1]) (by simp [results, Try.results40, go_sem]) rfl ⟨rfl, ?_⟩
    repeat (first | exact Below.refl _ _ | (refine Below.setCell ?_ (by first | omega | (simp; done) | (simp; omega)) _) | (refine Below.alloc ?_ (by first | omega | (simp; done) | (simp; omega)) _) | (refine below_drewN ?_ _))
  · obtain ⟨x0, x1, x2, x3, x4, x5, x6, x7⟩ := hk.c8
    have ltx := hk.lt
    go_enter Try.func40, Try.ntmps40
    go_wp2
    refine bodyPost_ret (v := .tuple #[.slice none 0 0, .int .i64 1]) (by simp [results, Try.results40, go_sem]) rfl ⟨rfl, ?_⟩
    repeat (first | exact Below.refl _ _ | (refine Below.setCell ?_ (by first | omega | (simp; done) | (simp; omega)) _) | (refine Below.alloc ?_ (by first | omega | (simp; done) | (simp; omega)) _) | (refine below_drewN ?_ _))

set_option maxRecDepth 100000 in
theorem nil_Depends (v : Value) (n : ByteArray) (w : World) (h : NilB w v) : Calls Try.prog 39 #[v, .string n] w fun e w' => e = .returned (.tuple #[.slice none 0 0, .slice none 0 0, .int .i64 1]) ∧ Below w.heap.size w w' := by
  rcases h with rfl | ⟨p, rfl, hk⟩
  · go_enter Try.func39, Try.ntmps39
    go_wp2
    refine bodyPost_ret (v := .tuple #[.slice none 0 0, .slice none 0 0, .int .i64 1]) (by simp [results, Try.results39, go_sem]) rfl ⟨rfl, ?_⟩
    repeat (first | exact Below.refl _ _ | (refine Below.setCell ?_ (by first | omega | (simp; done) | (simp; omega)) _) | (refine Below.alloc ?_ (by first | omega | (simp; done) | (simp; omega)) _) | (refine below_drewN ?_ _))
  · obtain ⟨x0, x1, x2, x3, x4, x5, x6, x7⟩ := hk.c8
    have ltx := hk.lt
    go_enter Try.func39, Try.ntmps39
    go_wp2
    refine bodyPost_ret (v := .tuple #[.slice none 0 0, .slice none 0 0, .int .i64 1]) (by simp [results, Try.results39, go_sem]) rfl ⟨rfl, ?_⟩
    repeat (first | exact Below.refl _ _ | (refine Below.setCell ?_ (by first | omega | (simp; done) | (simp; omega)) _) | (refine Below.alloc ?_ (by first | omega | (simp; done) | (simp; omega)) _) | (refine below_drewN ?_ _))

set_option maxHeartbeats 1000000 in
set_option maxRecDepth 100000 in
theorem nil_Gain (v : Value) (n : ByteArray) (t : Int) (w : World) (h : NilB w v) : Calls Try.prog 24 #[v, .string n, .int .i64 t] w fun e w' => e = .returned (.tuple #[.agg #[.int .i64 0, .int .i64 0], .agg #[.int .i64 0, .int .i64 0], .int .i64 1]) ∧ Below w.heap.size w w' := by
  rcases h with rfl | ⟨p, rfl, hk⟩
  · go_enter Try.func24, Try.ntmps24
    go_wp2_with fail
    go_step3
    go_wp2_with fail
    go_region
    all_goals
      go_wp2
      rw [Exit.noGoto_ret]
      refine bodyPost_ret (v := .tuple #[.agg #[.int .i64 0, .int .i64 0], .agg #[.int .i64 0, .int .i64 0], .int .i64 1]) (by simp [results, Try.results24, go_sem]) rfl ⟨rfl, ?_⟩
      repeat (first | exact Below.refl _ _ | (refine Below.setCell ?_ (by first | omega | (simp; done) | (simp; omega)) _) | (refine Below.alloc ?_ (by first | omega | (simp; done) | (simp; omega)) _) | (refine below_drewN ?_ _))
  · obtain ⟨x0, x1, x2, x3, x4, x5, x6, x7⟩ := hk.c8
    have ltx := hk.lt
    go_enter Try.func24, Try.ntmps24
    go_wp2_with fail
    go_step3
    go_wp2_with fail
    go_region
    all_goals
      go_wp2
      rw [Exit.noGoto_ret]
      refine bodyPost_ret (v := .tuple #[.agg #[.int .i64 0, .int .i64 0], .agg #[.int .i64 0, .int .i64 0], .int .i64 1]) (by simp [results, Try.results24, go_sem]) rfl ⟨rfl, ?_⟩
      repeat (first | exact Below.refl _ _ | (refine Below.setCell ?_ (by first | omega | (simp; done) | (simp; omega)) _) | (refine Below.alloc ?_ (by first | omega | (simp; done) | (simp; omega)) _) | (refine below_drewN ?_ _))

set_option maxHeartbeats 2000000 in
set_option maxRecDepth 100000 in
theorem nil_Radar (v : Value) (n : ByteArray) (d : Int) (w : World) (h : NilB w v) : Calls Try.prog 17 #[v, .string n, .int .i64 d] w fun e w' => e = .returned (.int .i64 1) ∧ Below w.heap.size w w' := by
  obtain ⟨A, rfl⟩ : ∃ A, v = .pointer A := by
    rcases h with h | ⟨p, h, _⟩ <;> exact ⟨_, h⟩
  have hs := fun W (hW : Below w.heap.size w W) => nil_state _ W (h.later hW)
  clear h
  go_enter Try.func17, Try.ntmps17
  go_wp2_with fail
  refine (hs _ ?_).mono ?_
  · repeat (first | exact Below.refl _ _ | (refine Below.setCell ?_ (by first | omega | (simp; done) | (simp; omega)) _) | (refine Below.alloc ?_ (by first | omega | (simp; done) | (simp; omega)) _) | (refine below_drewN ?_ _))
  rintro e w' ⟨rfl, rfl⟩
  go_wp2
  go_ret
  refine ⟨rfl, ?_⟩
  repeat (first | exact Below.refl _ _ | (refine Below.setCell ?_ (by first | omega | (simp; done) | (simp; omega)) _) | (refine Below.alloc ?_ (by first | omega | (simp; done) | (simp; omega)) _) | (refine below_drewN ?_ _))
set_option maxHeartbeats 2000000 in
set_option maxRecDepth 100000 in
theorem nil_Define (v : Value) (a : Array Value) (w : World) (h : NilB w v) : Calls Try.prog 21 #[v, .agg a] w fun e w' => e = .returned (.int .i64 1) ∧ Below w.heap.size w w' := by
  obtain ⟨A, rfl⟩ : ∃ A, v = .pointer A := by
    rcases h with h | ⟨p, h, _⟩ <;> exact ⟨_, h⟩
  have hs := fun W (hW : Below w.heap.size w W) => nil_state _ W (h.later hW)
  clear h
  go_enter Try.func21, Try.ntmps21
  go_wp2_with fail
  refine (hs _ ?_).mono ?_
  · repeat (first | exact Below.refl _ _ | (refine Below.setCell ?_ (by first | omega | (simp; done) | (simp; omega)) _) | (refine Below.alloc ?_ (by first | omega | (simp; done) | (simp; omega)) _) | (refine below_drewN ?_ _))
  rintro e w' ⟨rfl, rfl⟩
  go_wp2
  go_ret
  refine ⟨rfl, ?_⟩
  repeat (first | exact Below.refl _ _ | (refine Below.setCell ?_ (by first | omega | (simp; done) | (simp; omega)) _) | (refine Below.alloc ?_ (by first | omega | (simp; done) | (simp; omega)) _) | (refine below_drewN ?_ _))
set_option maxHeartbeats 2000000 in
set_option maxRecDepth 100000 in
theorem nil_turn (v : Value) (n : ByteArray) (o : Bool) (w : World) (h : NilB w v) : Calls Try.prog 76 #[v, .string n, .bool o] w fun e w' => e = .returned (.int .i64 1) ∧ Below w.heap.size w w' := by
  obtain ⟨A, rfl⟩ : ∃ A, v = .pointer A := by
    rcases h with h | ⟨p, h, _⟩ <;> exact ⟨_, h⟩
  have hs := fun W (hW : Below w.heap.size w W) => nil_state _ W (h.later hW)
  clear h
  go_enter Try.func76, Try.ntmps76
  go_wp2_with fail
  refine (hs _ ?_).mono ?_
  · repeat (first | exact Below.refl _ _ | (refine Below.setCell ?_ (by first | omega | (simp; done) | (simp; omega)) _) | (refine Below.alloc ?_ (by first | omega | (simp; done) | (simp; omega)) _) | (refine below_drewN ?_ _))
  rintro e w' ⟨rfl, rfl⟩
  go_wp2
  go_ret
  refine ⟨rfl, ?_⟩
  repeat (first | exact Below.refl _ _ | (refine Below.setCell ?_ (by first | omega | (simp; done) | (simp; omega)) _) | (refine Below.alloc ?_ (by first | omega | (simp; done) | (simp; omega)) _) | (refine below_drewN ?_ _))

set_option maxHeartbeats 2000000 in
set_option maxRecDepth 100000 in
theorem nil_Test (v : Value) (a : Array Value) (w : World) (h : NilB w v) : Calls Try.prog 23 #[v, .agg a] w fun e w' => e = .returned (.tuple #[.int .i64 0, .int .i64 1]) ∧ Below w.heap.size w w' := by
  obtain ⟨A, rfl⟩ : ∃ A, v = .pointer A := by
    rcases h with h | ⟨p, h, _⟩ <;> exact ⟨_, h⟩
  have hs := fun W (hW : Below w.heap.size w W) => nil_state _ W (h.later hW)
  clear h
  go_enter Try.func23, Try.ntmps23
  go_wp2_with fail
  refine (hs _ ?_).mono ?_
  · repeat (first | exact Below.refl _ _ | (refine Below.setCell ?_ (by first | omega | (simp; done) | (simp; omega)) _) | (refine Below.alloc ?_ (by first | omega | (simp; done) | (simp; omega)) _) | (refine below_drewN ?_ _))
  rintro e w' ⟨rfl, rfl⟩
  go_wp2
  refine bodyPost_ret (v := .tuple #[.int .i64 0, .int .i64 1]) (by simp [results, Try.results23, go_sem]) rfl ⟨rfl, ?_⟩
  repeat (first | exact Below.refl _ _ | (refine Below.setCell ?_ (by first | omega | (simp; done) | (simp; omega)) _) | (refine Below.alloc ?_ (by first | omega | (simp; done) | (simp; omega)) _) | (refine below_drewN ?_ _))

theorem nil_Withdraw (v : Value) (n : ByteArray) (w : World) (h : NilB w v) : Calls Try.prog 35 #[v, .string n] w fun e w' => e = .returned (.int .i64 1) ∧ Below w.heap.size w w' := by
  go_enter Try.func35, Try.ntmps35
  go_wp2_with fail
  refine (nil_turn v n _ w h).mono ?_
  rintro e w' ⟨rfl, hb⟩
  go_wp2
  go_ret
  exact ⟨rfl, hb⟩
theorem nil_Reinstate (v : Value) (n : ByteArray) (w : World) (h : NilB w v) : Calls Try.prog 36 #[v, .string n] w fun e w' => e = .returned (.int .i64 1) ∧ Below w.heap.size w w' := by
  go_enter Try.func36, Try.ntmps36
  go_wp2_with fail
  refine (nil_turn v n _ w h).mono ?_
  rintro e w' ⟨rfl, hb⟩
  go_wp2
  go_ret
  exact ⟨rfl, hb⟩
end Go.Proofs.Ytiggefmckomilaa
