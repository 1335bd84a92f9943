/-
  What is no book: each call's answer.
  Whether two arrays of two integers are equal: the run of the comparison. Over any program.
  A radar is entered.
  The book of the chapter's examples, and its answers.
-/
import Derived.Test.YtiggefmckomilaaTracePush
import Derived.WalkMore
import Derived.Test.YtiggefmckomilaaWords
import Derived.ChangeKeysEq
import Derived.Test.YtiggefmckomilaaNames2
import Derived.Test.YtiggefmckomilaaTraceGain
import Derived.Test.YtiggefmckomilaaTraceDefine
import Derived.Test.YtiggefmckomilaaTraceTest
set_option linter.unusedSimpArgs false
set_option linter.unusedVariables false
namespace Go.Proofs.Ytiggefmckomilaa
open Go Go.RowKit

def NilB (w : World) (v : Value) : Prop := v = .pointer none ∨ ∃ p, v = .pointer (some ⟨p, 0, none⟩) ∧ Blk w p 98 #[.bool false, .map none, .map none, .slice none 0 0, .slice none 0 0, .map none, .map none, .slice none 0 0]
theorem NilB.later {w w' : World} {v : Value} (h : NilB w v) (hb : Below w.heap.size w w') : NilB w' v := by
  rcases h with h | ⟨p, h, hk⟩
  · exact .inl h
  · exact .inr ⟨p, h, hk.below hb hk.lt⟩
theorem NilB.alloc {w : World} {v : Value} (h : NilB w v) (o : Obj) : NilB (w.alloc o) v := h.later ((Below.refl _ _).alloc (Nat.le_refl _) _)

theorem nil_state (v : Value) (w : World) (h : NilB w v) : Calls Try.prog 58 #[v] w fun e w' => e = .returned (.int .i64 1) ∧ w = w' := by
  rcases h with rfl | ⟨p, rfl, hk⟩
  · go_enter Try.func58, Try.ntmps58
    go_wp2
    go_ret
    exact ⟨rfl, rfl⟩
  · obtain ⟨x0, x1, x2, x3, x4, x5, x6, x7⟩ := hk.c8
    have ltx := hk.lt
    go_enter Try.func58, Try.ntmps58
    go_wp2
    go_ret
    exact ⟨rfl, rfl⟩

theorem nil_Entries (v : Value) (w : World) (h : NilB w v) : Calls Try.prog 34 #[v] w fun e w' => e = .returned (.int .i64 0) ∧ Below w.heap.size w w' := by
  rcases h with rfl | ⟨p, rfl, hk⟩
  · go_enter Try.func34, Try.ntmps34
    go_wp2
    go_ret
    exact ⟨rfl, Below.refl _ _⟩
  · obtain ⟨x0, x1, x2, x3, x4, x5, x6, x7⟩ := hk.c8
    have ltx := hk.lt
    go_enter Try.func34, Try.ntmps34
    go_wp2
    go_ret
    exact ⟨rfl, Below.refl _ _⟩
theorem nil_Copy (v : Value) (w : World) (h : NilB w v) : Calls Try.prog 37 #[v] w fun e w' => e = .returned (.pointer none) ∧ Below w.heap.size w w' := by
  rcases h with rfl | ⟨p, rfl, hk⟩
  · go_enter Try.func37, Try.ntmps37
    go_wp2
    go_ret
    exact ⟨rfl, Below.refl _ _⟩
  · obtain ⟨x0, x1, x2, x3, x4, x5, x6, x7⟩ := hk.c8
    have ltx := hk.lt
    go_enter Try.func37, Try.ntmps37
    go_wp2
    go_ret
    exact ⟨rfl, Below.refl _ _⟩

set_option maxHeartbeats 2000000 in
set_option maxRecDepth 100000 in
theorem nil_Value (v : Value) (n : ByteArray) (t : Int) (w : World) (h : NilB w v) : Calls Try.prog 22 #[v, .string n, .int .i64 t] w fun e w' => e = .returned (.tuple #[.agg #[.int .i64 0, .int .i64 0], .int .i64 1]) ∧ Below w.heap.size w w' := by
  rcases h with rfl | ⟨p, rfl, hk⟩
  · go_enter Try.func22, Try.ntmps22
    go_wp2
    refine bodyPost_ret (v := .tuple #[.agg #[.int .i64 0, .int .i64 0], .int .i64 1]) (by simp [results, Try.results22, go_sem]) rfl ⟨rfl, ?_⟩
    repeat (first | exact Below.refl _ _ | (refine Below.setCell ?_ (by first | omega | (simp; done) | (simp; omega)) _) | (refine Below.alloc ?_ (by first | omega | (simp; done) | (simp; omega)) _) | (refine below_drewN ?_ _))
  · obtain ⟨x0, x1, x2, x3, x4, x5, x6, x7⟩ := hk.c8
    have ltx := hk.lt
    go_enter Try.func22, Try.ntmps22
    go_wp2
    refine bodyPost_ret (v := .tuple #[.agg #[.int .i64 0, .int .i64 0], .int .i64 1]) (by simp [results, Try.results22, go_sem]) rfl ⟨rfl, ?_⟩
    repeat (first | exact Below.refl _ _ | (refine Below.setCell ?_ (by first | omega | (simp; done) | (simp; omega)) _) | (refine Below.alloc ?_ (by first | omega | (simp; done) | (simp; omega)) _) | (refine below_drewN ?_ _))
set_option maxHeartbeats 2000000 in
set_option maxRecDepth 100000 in
theorem nil_Back (v : Value) (t : Int) (w : World) (h : NilB w v) : Calls Try.prog 38 #[v, .int .i64 t] w fun e w' => e = .returned (.tuple #[.pointer none, .int .i64 1]) ∧ Below w.heap.size w w' := by
  rcases h with rfl | ⟨p, rfl, hk⟩
  · go_enter Try.func38, Try.ntmps38
    go_wp2
    refine bodyPost_ret (v := .tuple #[.pointer none, .int .i64 1]) (by simp [results, Try.results38, go_sem]) rfl ⟨rfl, ?_⟩
    repeat (first | exact Below.refl _ _ | (refine Below.setCell ?_ (by first | omega | (simp; done) | (simp; omega)) _) | (refine Below.alloc ?_ (by first | omega | (simp; done) | (simp; omega)) _) | (refine below_drewN ?_ _))
  · obtain ⟨x0, x1, x2, x3, x4, x5, x6, x7⟩ := hk.c8
    have ltx := hk.lt
    go_enter Try.func38, Try.ntmps38
    go_wp2
    refine bodyPost_ret (v := .tuple #[.pointer none, .int .i64 1]) (by simp [results, Try.results38, go_sem]) rfl ⟨rfl, ?_⟩
    repeat (first | exact Below.refl _ _ | (refine Below.setCell ?_ (by first | omega | (simp; done) | (simp; omega)) _) | (refine Below.alloc ?_ (by first | omega | (simp; done) | (simp; omega)) _) | (refine below_drewN ?_ _))
set_option maxHeartbeats 2000000 in
set_option maxRecDepth 100000 in
theorem nil_Chain (v : Value) (t : Int) (w : World) (h : NilB w v) : Calls Try.prog 40 #[v, .int .i64 t] w fun e w' => e = .returned (.tuple #[.slice none 0 0, .int .i64 1]) ∧ Below w.heap.size w w' := by
  rcases h with rfl | ⟨p, rfl, hk⟩
  · go_enter Try.func40, Try.ntmps40
    go_wp2
    refine bodyPost_ret (v := .tuple #[.slice none 0 0, .int .i64 1]) (by simp [results, Try.results40, go_sem]) rfl ⟨rfl, ?_⟩
    repeat (first | exact Below.refl _ _ | (refine Below.setCell ?_ (by first | omega | (simp; done) | (simp; omega)) _) | (refine Below.alloc ?_ (by first | omega | (simp; done) | (simp; omega)) _) | (refine below_drewN ?_ _))
  · obtain ⟨x0, x1, x2, x3, x4, x5, x6, x7⟩ := hk.c8
    have ltx := hk.lt
    go_enter Try.func40, Try.ntmps40
    go_wp2
    refine bodyPost_ret (v := .tuple #[.slice none 0 0, .int .i64 1]) (by simp [results, Try.results40, go_sem]) rfl ⟨rfl, ?_⟩
    repeat (first | exact Below.refl _ _ | (refine Below.setCell ?_ (by first | omega | (simp; done) | (simp; omega)) _) | (refine Below.alloc ?_ (by first | omega | (simp; done) | (simp; omega)) _) | (refine below_drewN ?_ _))

set_option maxRecDepth 100000 in
theorem nil_Depends (v : Value) (n : ByteArray) (w : World) (h : NilB w v) : Calls Try.prog 39 #[v, .string n] w fun e w' => e = .returned (.tuple #[.slice none 0 0, .slice none 0 0, .int .i64 1]) ∧ Below w.heap.size w w' := by
  rcases h with rfl | ⟨p, rfl, hk⟩
  · go_enter Try.func39, Try.ntmps39
    go_wp2
    refine bodyPost_ret (v := .tuple #[.slice none 0 0, .slice none 0 0, .int .i64 1]) (by simp [results, Try.results39, go_sem]) rfl ⟨rfl, ?_⟩
    repeat (first | exact Below.refl _ _ | (refine Below.setCell ?_ (by first | omega | (simp; done) | (simp; omega)) _) | (refine Below.alloc ?_ (by first | omega | (simp; done) | (simp; omega)) _) | (refine below_drewN ?_ _))
  · obtain ⟨x0, x1, x2, x3, x4, x5, x6, x7⟩ := hk.c8
    have ltx := hk.lt
    go_enter Try.func39, Try.ntmps39
    go_wp2
    refine bodyPost_ret (v := .tuple #[.slice none 0 0, .slice none 0 0, .int .i64 1]) (by simp [results, Try.results39, go_sem]) rfl ⟨rfl, ?_⟩
    repeat (first | exact Below.refl _ _ | (refine Below.setCell ?_ (by first | omega | (simp; done) | (simp; omega)) _) | (refine Below.alloc ?_ (by first | omega | (simp; done) | (simp; omega)) _) | (refine below_drewN ?_ _))

set_option maxHeartbeats 1000000 in
set_option maxRecDepth 100000 in
theorem nil_Gain (v : Value) (n : ByteArray) (t : Int) (w : World) (h : NilB w v) : Calls Try.prog 24 #[v, .string n, .int .i64 t] w fun e w' => e = .returned (.tuple #[.agg #[.int .i64 0, .int .i64 0], .agg #[.int .i64 0, .int .i64 0], .int .i64 1]) ∧ Below w.heap.size w w' := by
  rcases h with rfl | ⟨p, rfl, hk⟩
  · go_enter Try.func24, Try.ntmps24
    go_wp2_with fail
    go_step3
    go_wp2_with fail
    go_region
    all_goals
      go_wp2
      rw [Exit.noGoto_ret]
      refine bodyPost_ret (v := .tuple #[.agg #[.int .i64 0, .int .i64 0], .agg #[.int .i64 0, .int .i64 0], .int .i64 1]) (by simp [results, Try.results24, go_sem]) rfl ⟨rfl, ?_⟩
      repeat (first | exact Below.refl _ _ | (refine Below.setCell ?_ (by first | omega | (simp; done) | (simp; omega)) _) | (refine Below.alloc ?_ (by first | omega | (simp; done) | (simp; omega)) _) | (refine below_drewN ?_ _))
  · obtain ⟨x0, x1, x2, x3, x4, x5, x6, x7⟩ := hk.c8
    have ltx := hk.lt
    go_enter Try.func24, Try.ntmps24
    go_wp2_with fail
    go_step3
    go_wp2_with fail
    go_region
    all_goals
      go_wp2
      rw [Exit.noGoto_ret]
      refine bodyPost_ret (v := .tuple #[.agg #[.int .i64 0, .int .i64 0], .agg #[.int .i64 0, .int .i64 0], .int .i64 1]) (by simp [results, Try.results24, go_sem]) rfl ⟨rfl, ?_⟩
      repeat (first | exact Below.refl _ _ | (refine Below.setCell ?_ (by first | omega | (simp; done) | (simp; omega)) _) | (refine Below.alloc ?_ (by first | omega | (simp; done) | (simp; omega)) _) | (refine below_drewN ?_ _))

set_option maxHeartbeats 2000000 in
set_option maxRecDepth 100000 in
theorem nil_Radar (v : Value) (n : ByteArray) (d : Int) (w : World) (h : NilB w v) : Calls Try.prog 17 #[v, .string n, .int .i64 d] w fun e w' => e = .returned (.int .i64 1) ∧ Below w.heap.size w w' := by
  obtain ⟨A, rfl⟩ : ∃ A, v = .pointer A := by
    rcases h with h | ⟨p, h, _⟩ <;> exact ⟨_, h⟩
  have hs := fun W (hW : Below w.heap.size w W) => nil_state _ W (h.later hW)
  clear h
  go_enter Try.func17, Try.ntmps17
  go_wp2_with fail
  refine (hs _ ?_).mono ?_
  · repeat (first | exact Below.refl _ _ | (refine Below.setCell ?_ (by first | omega | (simp; done) | (simp; omega)) _) | (refine Below.alloc ?_ (by first | omega | (simp; done) | (simp; omega)) _) | (refine below_drewN ?_ _))
  rintro e w' ⟨rfl, rfl⟩
  go_wp2
  go_ret
  refine ⟨rfl, ?_⟩
  repeat (first | exact Below.refl _ _ | (refine Below.setCell ?_ (by first | omega | (simp; done) | (simp; omega)) _) | (refine Below.alloc ?_ (by first | omega | (simp; done) | (simp; omega)) _) | (refine below_drewN ?_ _))
set_option maxHeartbeats 2000000 in
set_option maxRecDepth 100000 in
theorem nil_Define (v : Value) (a : Array Value) (w : World) (h : NilB w v) : Calls Try.prog 21 #[v, .agg a] w fun e w' => e = .returned (.int .i64 1) ∧ Below w.heap.size w w' := by
  obtain ⟨A, rfl⟩ : ∃ A, v = .pointer A := by
    rcases h with h | ⟨p, h, _⟩ <;> exact ⟨_, h⟩
  have hs := fun W (hW : Below w.heap.size w W) => nil_state _ W (h.later hW)
  clear h
  go_enter Try.func21, Try.ntmps21
  go_wp2_with fail
  refine (hs _ ?_).mono ?_
  · repeat (first | exact Below.refl _ _ | (refine Below.setCell ?_ (by first | omega | (simp; done) | (simp; omega)) _) | (refine Below.alloc ?_ (by first | omega | (simp; done) | (simp; omega)) _) | (refine below_drewN ?_ _))
  rintro e w' ⟨rfl, rfl⟩
  go_wp2
  go_ret
  refine ⟨rfl, ?_⟩
  repeat (first | exact Below.refl _ _ | (refine Below.setCell ?_ (by first | omega | (simp; done) | (simp; omega)) _) | (refine Below.alloc ?_ (by first | omega | (simp; done) | (simp; omega)) _) | (refine below_drewN ?_ _))
set_option maxHeartbeats 2000000 in
set_option maxRecDepth 100000 in
theorem nil_turn (v : Value) (n : ByteArray) (o : Bool) (w : World) (h : NilB w v) : Calls Try.prog 76 #[v, .string n, .bool o] w fun e w' => e = .returned (.int .i64 1) ∧ Below w.heap.size w w' := by
  obtain ⟨A, rfl⟩ : ∃ A, v = .pointer A := by
    rcases h with h | ⟨p, h, _⟩ <;> exact ⟨_, h⟩
  have hs := fun W (hW : Below w.heap.size w W) => nil_state _ W (h.later hW)
  clear h
  go_enter Try.func76, Try.ntmps76
  go_wp2_with fail
  refine (hs _ ?_).mono ?_
  · repeat (first | exact Below.refl _ _ | (refine Below.setCell ?_ (by first | omega | (simp; done) | (simp; omega)) _) | (refine Below.alloc ?_ (by first | omega | (simp; done) | (simp; omega)) _) | (refine below_drewN ?_ _))
  rintro e w' ⟨rfl, rfl⟩
  go_wp2
  go_ret
  refine ⟨rfl, ?_⟩
  repeat (first | exact Below.refl _ _ | (refine Below.setCell ?_ (by first | omega | (simp; done) | (simp; omega)) _) | (refine Below.alloc ?_ (by first | omega | (simp; done) | (simp; omega)) _) | (refine below_drewN ?_ _))

set_option maxHeartbeats 2000000 in
set_option maxRecDepth 100000 in
theorem nil_Test (v : Value) (a : Array Value) (w : World) (h : NilB w v) : Calls Try.prog 23 #[v, .agg a] w fun e w' => e = .returned (.tuple #[.int .i64 0, .int .i64 1]) ∧ Below w.heap.size w w' := by
  obtain ⟨A, rfl⟩ : ∃ A, v = .pointer A := by
    rcases h with h | ⟨p, h, _⟩ <;> exact ⟨_, h⟩
  have hs := fun W (hW : Below w.heap.size w W) => nil_state _ W (h.later hW)
  clear h
  go_enter Try.func23, Try.ntmps23
  go_wp2_with fail
  refine (hs _ ?_).mono ?_
  · repeat (first | exact Below.refl _ _ | (refine Below.setCell ?_ (by first | omega | (simp; done) | (simp; omega)) _) | (refine Below.alloc ?_ (by first | omega | (simp; done) | (simp; omega)) _) | (refine below_drewN ?_ _))
  rintro e w' ⟨rfl, rfl⟩
  go_wp2
  refine bodyPost_ret (v := .tuple #[.int .i64 0, .int .i64 1]) (by simp [results, Try.results23, go_sem]) rfl ⟨rfl, ?_⟩
  repeat (first | exact Below.refl _ _ | (refine Below.setCell ?_ (by first | omega | (simp; done) | (simp; omega)) _) | (refine Below.alloc ?_ (by first | omega | (simp; done) | (simp; omega)) _) | (refine below_drewN ?_ _))

theorem nil_Withdraw (v : Value) (n : ByteArray) (w : World) (h : NilB w v) : Calls Try.prog 35 #[v, .string n] w fun e w' => e = .returned (.int .i64 1) ∧ Below w.heap.size w w' := by
  go_enter Try.func35, Try.ntmps35
  go_wp2_with fail
  refine (nil_turn v n _ w h).mono ?_
  rintro e w' ⟨rfl, hb⟩
  go_wp2
  go_ret
  exact ⟨rfl, hb⟩
theorem nil_Reinstate (v : Value) (n : ByteArray) (w : World) (h : NilB w v) : Calls Try.prog 36 #[v, .string n] w fun e w' => e = .returned (.int .i64 1) ∧ Below w.heap.size w w' := by
  go_enter Try.func36, Try.ntmps36
  go_wp2_with fail
  refine (nil_turn v n _ w h).mono ?_
  rintro e w' ⟨rfl, hb⟩
  go_wp2
  go_ret
  exact ⟨rfl, hb⟩
end Go.Proofs.Ytiggefmckomilaa
namespace Go.Proofs.Ytiggefmckomilaa
open Go Go.RowKit

theorem run_equalIn_arr2 {P : Program} {t e : TypeId} {k : IntKind} (ht : P.underlying t = some (.array 2 e)) (he : P.underlying e = some (.int k)) (hs : P.cellsOf e = 1) (n : Nat) (a b a' b' : Int) (w : World) :
    (Op.equalIn (n + 2) t (.agg #[.int k a, .int k b]) (.agg #[.int k a', .int k b'])).run P w = .ok (a == a' && b == b') w := by
  obtain ⟨i, hi⟩ := info_of_underlying he
  rw [run_equalIn_array w (n + 1) _ _ ht hi, hs]
  have hp : P.plainKey e = true := by unfold Program.plainKey; rw [he]
  have h0 : ∀ x y : Int, (part e #[Value.int k x, .int k y] 0).run P w = .ok (.int k x) w := fun x y => run_part_plain w hp rfl
  have h1 : ∀ x y : Int, (part e #[Value.int k x, .int k y] 1).run P w = .ok (.int k y) w := fun x y => run_part_plain w hp rfl
  have hq : ∀ x y : Int, (Op.equalIn (n + 1) e (.int k x) (.int k y)).run P w = .ok (x == y) w := fun x y => run_equalIn_int w n e k k x y he
  show (Op.eqItems (n + 1) e 1 _ _ [0, 1]).run P w = _
  simp only [Op.eqItems, Sem.run_bind, Nat.zero_mul, Nat.one_mul, h0, h1, hq, Result.andThen_ok]
  by_cases c0 : a = a' <;> by_cases c1 : b = b' <;> simp [c0, c1, h0, h1, hq, Sem.run_bind]
end Go.Proofs.Ytiggefmckomilaa
namespace Go.Proofs.Ytiggefmckomilaa
open Go Go.RowKit

/-- The book, when the radar's drift is in its map. -/
theorem bookQ_radar {l : List Ent} {p : Nat} {L : Lay} {w w5 : World} {n : ByteArray} {d : Int} (h : BookR l p L w) (hok : okEnt l (.radar n d) = true) (hn : driftT l n = none)
    (hm : MapV w5 Try.prog 9 L.br (putF (fun q => (driftT l q).map (Value.int .i64)) n (.int .i64 d)) (if ((fun q => (driftT l q).map (Value.int .i64)) n).isSome then (radarsT l).length else (radarsT l).length + 1))
    (hk : ∀ k, k < w.heap.size → k ≠ L.br → w5.heap[k]? = w.heap[k]?) : BookQ (.radar n d) l p L w5 := by
  have hlt := h.lt
  have hnd := h.nodup
  have hk' : ∀ k ∈ L.all p, k ≠ L.br → w5.heap[k]? = w.heap[k]? := fun k hm => hk k (hlt k hm)
  have hne : ∀ k ∈ L.bs :: L.bw :: L.bv :: (optL L.vo ++ (optL L.vt ++ (optL L.ve ++ (L.kb ++ L.cb.flatten)))), w5.heap[k]? = w.heap[k]? := fun k hm => by
    unfold Lay.all at hnd
    rw [List.nodup_cons, List.nodup_cons] at hnd
    exact hk' k (by unfold Lay.all; exact List.mem_cons_of_mem _ (List.mem_cons_of_mem _ hm)) fun e => hnd.2.1 (e ▸ hm)
  have hp : w5.heap[p]? = w.heap[p]? := hk' p (by simp [Lay.all]) fun e => by
    unfold Lay.all at hnd
    rw [List.nodup_cons] at hnd
    exact hnd.1 (by rw [e]; simp)
  obtain ⟨c6, h6a, h6⟩ := h.wd
  obtain ⟨c7, h7a, h7⟩ := h.void
  have hm2 : MapV w5 Try.prog 9 L.br (fun m => (driftT (.radar n d :: l) m).map (Value.int .i64)) (radarsT (.radar n d :: l)).length := by
    have e1 : (if ((fun q => (driftT l q).map (Value.int .i64)) n).isSome then (radarsT l).length else (radarsT l).length + 1) = (radarsT (.radar n d :: l)).length := by simp only [hn, Option.map_none]; rfl
    rw [e1] at hm
    refine hm.congr fun m => ?_
    unfold putF
    rw [driftT]
    by_cases e : m = n
    · rw [if_pos e, if_pos e.symm]; rfl
    · rw [if_neg e, if_neg (Ne.symm e)]
  refine ⟨⟨hok, h.good⟩, h.nodup, hp.trans h.book, hm2, h.stds.stab (hne _ (by simp)), ⟨c6, by simp; omega, h6.stab (hne _ (by simp))⟩, ⟨c7, Nat.le_trans h7a (Nat.mul_le_mul (by simp) (by simp)), h7.stab (hne _ (by simp))⟩,
    own_stabT h.order fun g hg => hne g (by simp [optL_mem hg]), own_stabT h.tests fun g hg => hne g (by simp [optL_mem hg]), own_stabT h.entries fun g hg => hne g (by simp [optL_mem hg]), h.knowns.stab fun k h' => hne k (by simp [h']), h.caps.stab fun k h' => hne k ?_⟩
  simp only [List.mem_cons, List.mem_append]
  exact .inr (.inr (.inr (.inr (.inr (.inr (.inr h'))))))

set_option maxHeartbeats 2000000 in
set_option maxRecDepth 100000 in
theorem Radar_any (l : List Ent) (p : Nat) (L : Lay) (n : ByteArray) (d : Int) (w : World) (hb : BookR l p L w) (hn : n.size ≤ maxLen) :
    Calls Try.prog 17 #[ptrB p, .string n, .int .i64 d] w fun e w' => e = .returned (.int .i64 (radarE l n d)) ∧ EntPost l p L w (.radar n d) (radarE l n d) w' := by
  obtain ⟨Ao, co, At, ct, Ae, ce, e1, e2, e3, hk⟩ := hb.cells
  have hE : radarE l n d = if 2000 ≤ l.length then 13 else if nameB n = false then 10 else if (driftT l n).isSome then 5 else if 32 ≤ (radarsT l).length then 9 else if inR d 0 1000000 = false then 3 else 0 := rfl
  have hp := fun (ev : Int) (W : World) (h : Below w.heap.size w W) (he : ev ≠ 0) => EntPost.same (x := .radar n d) (ev := ev) hb h he
  have hl := fun W hw => look_radar (W := W) hb hw hn
  have hlen := fun W (hw : Below w.heap.size w W) ty => (hb.later hw).radars.len (t := 91) (e := 3) Try.underlying91 ty
  have hnm := fun W => Name_any n W (by unfold maxLen at hn; omega)
  have hwi := fun W => within_any d 0 1000000 W
  generalize hr : radarE l n d = r at *
  unfold ptrB
  have hst := fun W (h : Below w.heap.size w W) => state_any p l.length ce _ _ _ _ _ _ Ae W (blk_later hk h)
  have Hk := hide hk
  have Hp := hide hp
  have Hl := hide hl
  have Hlen := hide hlen
  have Hnm := hide hnm
  have Hwi := hide hwi
  have Hst := hide hst
  clear hk hp hl hlen hnm hwi hst
  by_cases c1 : 2000 ≤ l.length
  · rw [if_pos c1] at hE
    have hs13 : stateE l.length = 13 := by unfold stateE; rw [if_pos c1]
    rw [hs13] at Hst
    subst hE
    clear c1 hs13
    go_enter Try.func17, Try.ntmps17
    have HB := hide (Below.refl w.heap.size w)
    go_wp2_with fail
    refine at_world fun W1 hW => ?_
    have bq0 : Blk W1 w.heap.size 9 #[.string n] := by rw [hW]; exact (Blk.new _ _ _).alloc _
    have bq1 : Blk W1 (w.heap.size + 1) 3 #[.int .i64 d] := by rw [hW]; exact blk_new_at (by simp)
    have LW : Later w W1 := by rw [hW]; exact (((Below.refl _ _).alloc (Nat.le_refl _) _).alloc (by simp; try omega) _)
    have szW : W1.heap.size = w.heap.size + 2 := by rw [hW]; simp
    clear hW
    replace HB := hide (onward HB.out LW)
    replace Hk := hide (blk_later Hk.out LW)
    have Hs := hide bq0
    have Hd := hide bq1
    clear bq0 bq1 LW szW
    refine (Hst.out _ HB.out).mono ?_
    rintro e w2 ⟨rfl, hb⟩
    replace HB := hide (onward HB.out hb)
    replace Hk := hide (blk_later Hk.out hb)
    replace Hs := hide (blk_later Hs.out hb)
    replace Hd := hide (blk_later Hd.out hb)
    clear hb
    go_wp2
    go_ret
    exact ⟨rfl, Hp.out 13 _ HB.out (by decide)⟩
  · rw [if_neg c1] at hE
    have hs0 : stateE l.length = 0 := by unfold stateE; rw [if_neg c1]
    rw [hs0] at Hst
    clear hs0
    have hn9 : n.size ≤ maxLen := hn
    go_enter Try.func17, Try.ntmps17
    have HB := hide (Below.refl w.heap.size w)
    go_wp2_with fail
    refine at_world fun W1 hW => ?_
    have bq0 : Blk W1 w.heap.size 9 #[.string n] := by rw [hW]; exact (Blk.new _ _ _).alloc _
    have bq1 : Blk W1 (w.heap.size + 1) 3 #[.int .i64 d] := by rw [hW]; exact blk_new_at (by simp)
    have LW : Later w W1 := by rw [hW]; exact (((Below.refl _ _).alloc (Nat.le_refl _) _).alloc (by simp; try omega) _)
    have szW : W1.heap.size = w.heap.size + 2 := by rw [hW]; simp
    clear hW
    replace HB := hide (onward HB.out LW)
    replace Hk := hide (blk_later Hk.out LW)
    have Hs := hide bq0
    have Hd := hide bq1
    clear bq0 bq1 LW szW
    refine (Hst.out _ HB.out).mono ?_
    rintro e w2 ⟨rfl, hb⟩
    replace HB := hide (onward HB.out hb)
    replace Hk := hide (blk_later Hk.out hb)
    replace Hs := hide (blk_later Hs.out hb)
    replace Hd := hide (blk_later Hd.out hb)
    clear hb
    go_wp2_with fail
    obtain ⟨x0, x1, x2, x3, x4, x5, x6, x7⟩ := Hk.out.c8
    have n0 := Hs.out.c 0 rfl
    have ltk := Hk.out.lt
    have lts := Hs.out.lt
    apply wp_region_L (w0 := w2) [[], [], [], [], [], [], [], [], [], [], []] [true, true, true, true, true, true, true, true, true, true, true] [] (fun ixq y => match ixq with  | _ => undef) (fun ixq x F wq => match ixq with  | _ => True) (fun a x => a) (by kernel_rfl) (by kernel_rfl) (fun _ => rfl) [17, 21] (by kernel_rfl)
    · intro x D hD
      have hne := hD.some
      have k1 := liftB hD x1 (by first | assumption | omega)
      have kn := liftB hD n0 (by first | assumption | omega)
      have hlk := fun (x : Of D) => Hl.out x.val (onward HB.out (kb hD x))
      simp only [takeOps, Act.put, List.setIfInBounds_toArray, List.set_cons_succ, List.set_cons_zero]
      repeat (go_big_quiet_step (fail))
      exact wpQuiet_nil rfl
    · intro d hd x x'
      simp only [List.mem_cons, List.not_mem_nil, or_false] at hd
      rcases hd with rfl | rfl
      all_goals rfl
    · exact trivial
    · exact trivial
    intro xx w3 F hL3 hlv1
    clear hlv1
    clear x0 x1 x2 x3 x4 x5 x6 x7 n0 ltk lts
    replace HB := hide (onward HB.out hL3)
    replace Hk := hide (blk_later Hk.out hL3)
    replace Hs := hide (blk_later Hs.out hL3)
    replace Hd := hide (blk_later Hd.out hL3)
    clear hL3
    have n0 := Hs.out.c 0 rfl
    have lts := Hs.out.lt
    go_wp2_with fail
    clear n0 lts
    refine (Hnm.out _).mono ?_
    rintro e w4 ⟨rfl, hb⟩
    replace HB := hide (onward HB.out hb)
    replace Hk := hide (blk_later Hk.out hb)
    replace Hs := hide (blk_later Hs.out hb)
    replace Hd := hide (blk_later Hd.out hb)
    clear hb
    cases hnb : nameB n with
    | false =>
      rw [if_pos hnb] at hE
      subst hE
      go_wp2
      go_ret
      exact ⟨rfl, Hp.out 10 _ HB.out (by decide)⟩
    | true =>
      rw [if_neg (by rw [hnb]; simp)] at hE
      cases hdr : driftT l n with
      | some d0 =>
        rw [if_pos (by rw [hdr]; rfl)] at hE
        subst hE
        go_wp2
        go_ret
        exact ⟨rfl, Hp.out 5 _ HB.out (by decide)⟩
      | none =>
        rw [if_neg (by rw [hdr]; simp)] at hE
        obtain ⟨x0, x1, x2, x3, x4, x5, x6, x7⟩ := Hk.out.c8
        have ltk := Hk.out.lt
        have hln := Hlen.out w4 HB.out
        by_cases c2 : 32 ≤ (radarsT l).length
        · rw [if_pos c2] at hE
          subst hE
          have c2' : (32 : Int) ≤ (radarsT l).length := by omega
          go_wp2
          go_ret
          exact ⟨rfl, Hp.out 9 _ HB.out (by decide)⟩
        · rw [if_neg c2] at hE
          have c2' : ¬ (32 : Int) ≤ (radarsT l).length := by omega
          have d0 := Hd.out.c 0 rfl
          have ltd := Hd.out.lt
          go_wp2_with fail
          refine (Hwi.out _).mono ?_
          rintro e w' ⟨rfl, rfl⟩
          cases hir : inR d 0 1000000 with
          | false =>
            rw [if_pos hir] at hE
            subst hE
            go_wp2
            go_ret
            exact ⟨rfl, Hp.out 3 _ HB.out (by decide)⟩
          | true =>
            rw [if_neg (by rw [hir]; simp)] at hE
            have Hrm := hide (hb.later HB.out).radars
            have Hen := hide (hb.later HB.out).entries
            have hnd := hb.nodup
            have hbp : p ≠ L.br := fun e => by
              unfold Lay.all at hnd
              rw [List.nodup_cons] at hnd
              exact hnd.1 (by rw [e]; simp)
            have hep : L.ve.ownBlock ≠ some p := fun e => by
              unfold Lay.all at hnd
              rw [List.nodup_cons] at hnd
              exact hnd.1 (by simp [optL_mem e])
            have hok : okEnt l (.radar n d) = true := by show (radarE l n d == 0) = true; rw [hr, hE]; rfl
            have ltb := Hrm.out.lt
            have n0 := Hs.out.c 0 rfl
            have lts := Hs.out.lt
            go_wp2_with fail
            apply wp_region_F (w0 := w4) [[], [0], [0, 1], [0, 1, 2], [], [], [0, 1, 2, 3, 4, 5]] [true, true, true, true, true, true, false] [false, false, false, false, false, false, false] [⟨6, none, [], []⟩] [(6, L.br)] [6] (fun ixq y => match ixq with | 6 => undef | _ => undef) (fun ixq x F wq => match ixq with | 6 => F L.br ∧ MapV wq Try.prog 9 L.br (putF ((fun q => (driftT l q).map (Value.int .i64))) (n) (.int .i64 d)) (if (((fun q => (driftT l q).map (Value.int .i64))) (n)).isSome then (radarsT l).length else (radarsT l).length + 1) | _ => True) (fun a x => (a).put (none) (undef)) (by kernel_rfl) (by kernel_rfl) (by kernel_rfl) (fun _ => rfl) [42] (by kernel_rfl) (fills_lt1 (by omega)) fills_ne1
            · intro x D hD
              have hne := hD.some
              have k1 := liftS hD x1 (by exact early_all (by first | assumption | omega) (by rfl))
              have kn := liftS hD n0 (by exact early_all (by first | assumption | omega) (by rfl))
              have kd := liftS hD d0 (by exact early_all (by first | assumption | omega) (by rfl))
              simp only [takeOps, Act.put, List.setIfInBounds_toArray, List.set_cons_succ, List.set_cons_zero]
              repeat (go_big_quiet_step (fail))
              exact wpQuiet_nil rfl
            · exact fun x D hD => wpQuiet_nil rfl
            · intro d hd x x'
              simp only [List.mem_cons, List.not_mem_nil, or_false] at hd
              rcases hd with rfl
              all_goals rfl
            · refine ⟨?_, trivial⟩
              · exact obl_mapUpd 91 9 3 44 45 46 L.br ((radarsT l).length) ((fun q => (driftT l q).map (Value.int .i64))) (n) (.int .i64 d) (by kernel_rfl) (fun _ => rfl) (fun _ => rfl) (fun _ => rfl) Try.underlying9 Try.underlying91 (by unfold maxLen; omega) hn9 Hrm.out eb_fill1 (by simp [wrF]) (fun _ => rfl) (fun _ _ _ _ h1 h2 => ⟨h1, h2⟩)
            · refine ⟨?_, trivial⟩
              · exact owe_mapV _ _ _ _ _ (fun _ _ _ => rfl)
            intro xx w5 F hK hlv2
            obtain ⟨fct6, -⟩ := hlv2
            replace fct6 : (F 6) L.br ∧ MapV w5 Try.prog 9 L.br (putF ((fun q => (driftT l q).map (Value.int .i64))) (n) (.int .i64 d)) (if (((fun q => (driftT l q).map (Value.int .i64))) (n)).isSome then (radarsT l).length else (radarsT l).length + 1) := fct6 rfl
            have hgr := grown_kept hK
            have hmp := fct6.2
            have hbl5 : ∀ k, k < w4.heap.size → k ≠ L.br → w5.heap[k]? = w4.heap[k]? := fun k h1 h2 => hgr.block k h1 fun e => h2 (Option.some.inj e)
            have Q := bookQ_radar (hb.later HB.out) hok hdr hmp hbl5
            have hk5 := blk_grown Hk.out hgr (fun e => hbp (Option.some.inj e).symm)
            have hen5 := Q.entries
            rw [e3] at hen5 hep
            have hbrl := hb.lt L.br (by simp [Lay.all])
            have hs5 := blk_grown Hs.out hgr (fun e => by have := Option.some.inj e; omega)
            have hd5 := blk_grown Hd.out hgr (fun e => by have := Option.some.inj e; omega)
            have hw5 : w.heap.size ≤ w5.heap.size := Nat.le_trans HB.out.size hK.size
            have HK5 : Hid (Kept (fun k => k < w.heap.size ∧ k ∉ L.all p) w w5) := hide ⟨hgr.os.trans HB.out.os, hgr.tape.trans HB.out.tape, hgr.output.trans HB.out.output, hw5, fun k hk' => (hgr.block k (Nat.lt_of_lt_of_le hk'.1 HB.out.size) (fun e => hk'.2 (by rw [Option.some.inj e]; simp [Lay.all]))).trans (HB.out.block k hk'.1)⟩
            obtain ⟨i0, hii, hz0, hz1, hz2⟩ := info_parts funcInfo
            clear x0 x1 x2 x3 x4 x5 x6 x7 ltk d0 ltd n0 lts hln hmp fct6 hK hbl5 Hk Hs Hd Hrm Hen HB hgr ltb hbp
            have Hi := hide hii
            have Hz0 := hide hz0
            have Hz1 := hide hz1
            have Hz2 := hide hz2
            have Hk := hide hk5
            have Hen := hide hen5
            have Hs := hide hs5
            have Hd := hide hd5
            have HQ := hide Q
            clear hii hz0 hz1 hz2 hk5 hen5 hs5 hd5 Q
            obtain ⟨x0, x1, x2, x3, x4, x5, x6, x7⟩ := Hk.out.c8
            have ltk := Hk.out.lt
            go_wp2_with (at_builtin; refine wpList_append_own_at _ rfl (.tmp 51) (.tmp 53) _ rfl 0 106 i0 _ 1 8 Try.underlying96 Hi.out Hz0.out Hz1.out Hz2.out rfl (by decide) _ l.length _ rfl (Hen.out.alloc _) ⟨w5.heap.size, 0, none⟩ 1 1 [entF (.radar n d) [w.heap.size, w.heap.size + 1]] rfl rfl ?ka1 ?ka2 ?ka3 ?ka4 ?ka5 ?_)
            try case ka1 => exact new_cellsQ w5 _ [entF (.radar n d) [w.heap.size, w.heap.size + 1]]
            case ka2 => intro u hu; simp only [List.mem_singleton] at hu; subst hu; rfl
            case ka3 => unfold maxLen; omega
            case ka4 => omega
            case ka5 => exact Nat.zero_le _
            intro v' w6 hown hgrw _ hat
            obtain ⟨A9, c9, rfl⟩ := own_shape2 hown
            obtain ⟨q1, q2, q3⟩ := HQ.out.push (c := [w.heap.size, w.heap.size + 1]) ⟨_, _, rfl, Hs.out, Hd.out⟩ (by simp) (fun k hk' hm => by
              have := hb.lt k hm
              simp only [List.mem_cons, List.not_mem_nil, or_false] at hk'
              omega) (v := .slice A9 (l.length + 1) c9) (by rw [e3]; exact hgrw) hown (by rw [e3]; rw [World.size_alloc]; exact hat)
            have hk6 := blk_grown (Hk.out.alloc _) hgrw hep
            have hos : w6.os = w5.os ∧ w6.tape = w5.tape ∧ w6.output = w5.output := ⟨hgrw.os, hgrw.tape, hgrw.output⟩
            clear x0 x1 x2 x3 x4 x5 x6 x7 ltk hown hgrw Hk Hen
            have Hk := hide hk6
            have Q1 := hide q1
            have Q2 := hide q2
            have Q3 := hide q3
            have Hat := hide hat
            clear hk6 q1 q2 q3 hat
            have x7 := Hk.out.c 7 rfl
            have ltk := Hk.out.lt
            have fx7 := Hk.out.frozen 7
            go_wp2
            go_ret
            subst hE
            refine ⟨rfl, _, Q1.out, step_push HK5.out (fun k h => .inl h) (fun k hk' => ?_) ?_ Q2.out Q3.out hos⟩
            · simp only [List.mem_cons, List.not_mem_nil, or_false] at hk'; omega
            · rcases Hat.out with h1 | h1
              · exact .inl (by rw [e3]; exact h1)
              · exact .inr ⟨_, h1, by simp⟩
end Go.Proofs.Ytiggefmckomilaa
namespace Go.Proofs.Ytiggefmckomilaa
open Go Go.RowKit

/-- A book that was made behind a world: no elder memory is its own. -/
def BookN (l : List Ent) (p : Nat) (w0 w : World) : Prop := ∃ L, BookR l p L w ∧ Below w0.heap.size w0 w ∧ ∀ k ∈ L.all p, w0.heap.size ≤ k
theorem BookN.below {l : List Ent} {p : Nat} {w0 w : World} (h : BookN l p w0 w) : Below w0.heap.size w0 w := by
  obtain ⟨_, _, h, _⟩ := h
  exact h
theorem BookN.new {w0 w1 : World} {e : Ending} (h : NewPost w0 e w1) : ∃ p, e = .returned (ptrB p) ∧ BookN [] p w0 w1 := by
  obtain ⟨p, L, he, hb, hB, hL⟩ := h
  exact ⟨p, he, L, hb, hB, hL⟩
theorem BookN.later {l : List Ent} {p : Nat} {w0 w w' : World} (h : BookN l p w0 w) (hl : Below w.heap.size w w') : BookN l p w0 w' := by
  obtain ⟨L, hb, hB, hL⟩ := h
  exact ⟨L, hb.later hl, hB.trans (Below.mono hl hB.size), hL⟩
theorem BookN.step {l : List Ent} {p : Nat} {w0 w w' : World} {L : Lay} {x : Ent} {ev : Int} (hB : Below w0.heap.size w0 w) (hL : ∀ k ∈ L.all p, w0.heap.size ≤ k) (h : EntPost l p L w x ev w') : BookN (if ev = 0 then x :: l else l) p w0 w' := by
  obtain ⟨L', hb', hs⟩ := h
  have hsz := hB.size
  exact ⟨L', hb', hB.trans ⟨hs.kept.os, hs.kept.tape, hs.kept.output, hs.kept.size, fun k hk => hs.kept.block k ⟨by omega, fun hm => by have := hL k hm; omega⟩⟩, fun k hk => by
    rcases hs.new k hk with h | h
    · exact hL k h
    · omega⟩

def exR : Ent := .radar ⟨#[114]⟩ 2
def exA : Ent := .define ⟨⟨#[97]⟩, ⟨#[]⟩, 1000, 1010, 0, 864000, 1⟩
def exB : Ent := .define ⟨⟨#[98]⟩, ⟨#[97]⟩, 500, 500, 86400, 864000, 0⟩
def exT : Ent := .test ⟨⟨#[114]⟩, ⟨#[98]⟩, 172800, 998, 1012⟩
theorem ex1 : radarE [] ⟨#[114]⟩ 2 = 0 := by decide +kernel
theorem ex2 : defineE [exR] ⟨⟨#[97]⟩, ⟨#[]⟩, 1000, 1010, 0, 864000, 1⟩ = 0 := by decide +kernel
theorem ex3 : defineE [exA, exR] ⟨⟨#[98]⟩, ⟨#[97]⟩, 500, 500, 86400, 864000, 0⟩ = 0 := by decide +kernel
theorem ex4 : valueE [exB, exA, exR] ⟨#[98]⟩ 86400 = ((499, 506), 0) := by decide +kernel
theorem ex5 : testE [exB, exA, exR] ⟨⟨#[114]⟩, ⟨#[98]⟩, 172800, 998, 1012⟩ = 0 := by decide +kernel
theorem ex6 : gainE [exT, exB, exA, exR] ⟨#[114]⟩ 259200 = ((1970, 2031), (0, 0), 0) := by decide +kernel
theorem ex7 : (testsT [exB, exA, exR]).length = 0 := rfl

theorem point_any (n : Int) (w : World) : Calls Try.prog 42 #[.int .i64 n] w fun e w' => e = .returned (.agg #[.int .i64 n, .int .i64 n]) ∧ Below w.heap.size w w' := by
  go_enter Try.func42, Try.ntmps42
  go_wp2
  refine bodyPost_ret (v := .agg #[.int .i64 n, .int .i64 n]) (by simp [results, Try.results42, go_sem]) rfl ⟨rfl, ?_⟩
  repeat (first | exact Below.refl _ _ | (refine Below.setCell ?_ (by first | omega | (simp; done) | (simp; omega)) _) | (refine Below.alloc ?_ (by first | omega | (simp; done) | (simp; omega)) _) | (refine below_drewN ?_ _))
set_option maxHeartbeats 1000000 in
set_option maxRecDepth 100000 in
theorem book_any (w : World) : Calls Try.prog 41 #[] w fun e w' => ∃ p, e = .returned (.tuple #[ptrB p, .bool true]) ∧ BookN [exB, exA, exR] p w w' := by
  go_enter Try.func41, Try.ntmps41
  go_wp2_with fail
  refine (New_any _).mono ?_
  intro e w1 hN
  obtain ⟨p, rfl, L, hb, hB, hL⟩ := BookN.new hN
  clear hN
  go_wp2_with fail
  have c1 := Radar_any [] p L ⟨#[114]⟩ 2 w1 hb (by decide)
  rw [ex1] at c1
  refine c1.mono ?_
  clear c1
  rintro e w2 ⟨rfl, hp⟩
  obtain ⟨L2, hb2, hB2, hL2⟩ := BookN.step hB hL hp
  rw [if_pos rfl] at hb2
  clear hp hb hB hL
  go_wp2_with fail
  have c2 := Define_any [exR] p L2 ⟨⟨#[97]⟩, ⟨#[]⟩, 1000, 1010, 0, 864000, 1⟩ w2 hb2 (by decide) (by decide)
  rw [ex2] at c2
  refine c2.mono ?_
  clear c2
  rintro e w3 ⟨rfl, hp⟩
  obtain ⟨L3, hb3, hB3, hL3⟩ := BookN.step hB2 hL2 hp
  rw [if_pos rfl] at hb3
  clear hp hb2 hB2 hL2
  go_wp2_with fail
  refine (point_any _ _).mono ?_
  rintro e w4 ⟨rfl, hl⟩
  obtain ⟨L4, hb4, hB4, hL4⟩ := BookN.later ⟨L3, hb3, hB3, hL3⟩ hl
  clear hl hb3 hB3 hL3
  go_wp2_with fail
  have c3 := Define_any [exA, exR] p L4 ⟨⟨#[98]⟩, ⟨#[97]⟩, 500, 500, 86400, 864000, 0⟩ w4 hb4 (by decide) (by decide)
  rw [ex3] at c3
  refine c3.mono ?_
  clear c3
  rintro e w5 ⟨rfl, hp⟩
  obtain ⟨L5, hb5, hB5, hL5⟩ := BookN.step hB4 hL4 hp
  rw [if_pos rfl] at hb5
  clear hp hb4 hB4 hL4
  go_wp2
  refine bodyPost_ret (v := .tuple #[ptrB p, .bool true]) (by simp [results, Try.results41, go_sem]) rfl ⟨p, rfl, L5, hb5, hB5, hL5⟩
theorem eqAt (a b a' b' : Int) (w : World) : (Op.equalIn 10000 52 (.agg #[.int .i64 a, .int .i64 b]) (.agg #[.int .i64 a', .int .i64 b'])).run Try.prog w = .ok (a == a' && b == b') w :=
  run_equalIn_arr2 Try.underlying52 Try.underlying3 (by kernel_rfl) 9998 a b a' b' w
set_option maxHeartbeats 2000000 in
set_option maxRecDepth 100000 in
theorem works_any (w : World) : Calls Try.prog 15 #[] w fun e w' => e = .returned (.bool true) ∧ Below w.heap.size w w' := by
  go_enter Try.func15, Try.ntmps15
  go_wp2_with fail
  refine (book_any _).mono ?_
  rintro e w1 ⟨p, rfl, L, hb, hB, hL⟩
  have HW := hide (Below.refl w1.heap.size w1)
  go_wp2_with fail
  have c1 := Value_any [exB, exA, exR] p L ⟨#[98]⟩ 86400 w1 hb (by decide)
  rw [ex4] at c1
  refine (c1).mono ?_
  rintro e w2 ⟨rfl, hb⟩
  replace HW := hide (onward HW.out hb)
  clear hb
  clear c1
  have hsz2 := HW.out.size
  unfold spanE
  go_wp2_with fail
  refine at_world fun w3 hW => ?_
  have bq0 : Blk w3 w2.heap.size 23 #[.int .i64 499, .int .i64 506] := by rw [hW]; exact Blk.new _ _ _
  have LW : Later w2 w3 := by rw [hW]; exact ((Below.refl _ _).alloc (Nat.le_refl _) _)
  have szW : w3.heap.size = w2.heap.size + 1 := by rw [hW]; simp
  clear hW
  replace HW := hide (onward HW.out LW)
  have Hv := hide bq0
  clear bq0 LW szW
  have hb3 := hb.later HW.out
  have hB3 := hB.trans (Below.mono HW.out hB.size)
  have c2 := Test_any [exB, exA, exR] p L ⟨#[114]⟩ ⟨#[98]⟩ 172800 998 1012 w3 hb3 (by decide) (by decide)
  rw [ex5, if_pos rfl, show ((testsT [exB, exA, exR]).length : Int) = 0 from rfl] at c2
  refine c2.mono ?_
  clear c2
  rintro e w4 ⟨rfl, L4', hb', hs⟩
  have hsz := HW.out.size
  have hszv := Hv.out.lt
  have hv4 : Blk w4 w2.heap.size 23 #[.int .i64 499, .int .i64 506] := (hs.kept.block _ ⟨Hv.out.lt, fun hm => by have := hb.lt _ hm; omega⟩).trans Hv.out
  obtain ⟨L4, hb4, hB4, hL4⟩ := BookN.step hB3 hL ⟨L4', hb', hs⟩
  rw [if_pos rfl] at hb4
  have hB4' := hB4
  clear hs hb' hb3 hB3 hL hb hB HW Hv hsz hszv
  have HB := hide hB4
  have Hv := hide hv4
  clear hB4 hv4
  go_wp2_with fail
  have c3 := Gain_any [exT, exB, exA, exR] p L4 ⟨#[114]⟩ 259200 w4 hb4 (by decide)
  rw [ex6] at c3
  refine (c3).mono ?_
  rintro e w5 ⟨rfl, hb⟩
  replace HB := hide (onward HB.out hb)
  replace Hv := hide (blk_later Hv.out hb)
  clear hb
  clear c3 hb4 hL4 hB4'
  unfold gainV
  obtain ⟨v0, v1⟩ := Hv.out.c2
  have ltv := Hv.out.lt
  have heq := eqAt 0 0 0 0
  go_wp2
  go_ret
  have hsz := HB.out.size
  refine ⟨rfl, ?_⟩
  repeat (first | exact HB.out | (refine Below.setCell ?_ (by first | omega | (simp; done) | (simp; omega)) _) | (refine Below.alloc ?_ (by first | omega | (simp; done) | (simp; omega)) _) | (refine below_drewN ?_ _))
end Go.Proofs.Ytiggefmckomilaa
