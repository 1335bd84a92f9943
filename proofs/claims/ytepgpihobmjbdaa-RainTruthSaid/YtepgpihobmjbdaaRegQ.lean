/-
  Regions that draw their order: appends. To a row that the region itself has made; to a row that was there.
  Directions and slants: the program's contracts, the reference's.
  Quotients, and the error of a site: the program's contracts.
  Regions that draw their order: a row that lies in a field is appended to, and the field is stored.
-/
import Derived.Test.YtepgpihobmjbdaaRegW
import Derived.Maps.AppendAt
import Derived.Test.YtepgpihobmjbdaaProg
import Derived.Test.YtepgpihobmjbdaaBeam2Math
set_option linter.unusedSimpArgs false
set_option linter.unusedVariables false
section
namespace Go.Proofs.Ytepgpihobmjbdaa
open Go Go.RowKit
section
variable {P : Program} {lops : List Oper} {an : List (List Nat)} {m1 m2 : List Bool} {st : List St} {w0 : World} {a0 : Act} {af : (Nat → Par) → Act} {shape : Nat → Par → Value} {wr : Nat → Nat → Prop} {R : Nat → (Nat → Par) → (Nat → Prop) → World → Prop} {s : St} {o : Oper}
theorem own_shape2 {w : World} {base : Nat} {e : TypeId} {size n : Nat} {v : Value} {xs : List Value} (h : w.ownsRow base e size v n xs) : ∃ A c, v = .slice A n c := by
 rcases h.2 with ⟨hv, h0⟩ | ⟨g, cap, _, hv, _⟩
 · exact ⟨none, 0, by rw [hv, h0]⟩
 · exact ⟨_, _, hv⟩
theorem putH_step {x : Nat → Par} {s : St} {l : List St} {a b : Act} (d : Option Tmp) (v : Value) (hd : (lops[s.i]?).bind (·.dst) = d) (hv : shape s.i (x s.i) = v) (h : putH shape x lops l (a.put d v) = b) : putH shape x lops (s :: l) a = b := by
 rw [putH, hd, hv]; exact h
theorem putH_end {x : Nat → Par} {a : Act} : putH shape x lops [] a = a := rfl
def tmpAt (x : Option Operand) (p : Tmp) : Bool := match x with | some (.tmp q) => q == p | _ => false
def appendB (c : Callee) : Bool := match c with | .builtin .append => true | _ => false
def isAppend (o : Option Oper) (t : TypeId) (p q : Tmp) : Bool := match o with
 | some ⟨_, .call c, _, _, _, none⟩ => appendB c.callee && (c.args.size == 2 && tmpAt c.args[0]? p && tmpAt c.args[1]? q) && c.argTypes == #[t, t]
 | _ => false
theorem tmpAt_spec {x : Option Operand} {p : Tmp} (h : tmpAt x p = true) : x = some (.tmp p) := by
 unfold tmpAt at h
 split at h
 · rw [beq_iff_eq] at h; rw [h]
 · cases h
theorem isAppend_spec {o : Option Oper} {t : TypeId} {p q : Tmp} (h : isAppend o t p q = true) : ∃ d ty pos aft, o = some ⟨d, .call { callee := .builtin .append, args := #[.tmp p, .tmp q], argTypes := #[t, t] }, ty, pos, aft, none⟩ := by
 unfold isAppend at h
 split at h
 ·
  rename_i d c ty pos aft
  simp only [Bool.and_eq_true, beq_iff_eq] at h
  obtain ⟨⟨h1, ⟨h2, h3⟩, h4⟩, h5⟩ := h
  obtain ⟨ce, av, ts⟩ := c
  simp only at h1 h2 h3 h4 h5
  have e1 : ce = .builtin .append := by
   unfold appendB at h1
   split at h1
   · rfl
   · cases h1
  have e2 : av = #[.tmp p, .tmp q] := by
   have a0 := tmpAt_spec h3
   have a1 := tmpAt_spec h4
   obtain ⟨l⟩ := av
   match l, h2, a0, a1 with
   | [x, y], _, a0, a1 =>
    simp at a0 a1
    rw [a0, a1]
  exact ⟨d, ty, pos, aft, by rw [e1, e2, h5]⟩
 · cases h
theorem own_new {w0 w : World} {elem size n : Nat} {cells : Array Value} (hle : w0.heap.size ≤ w.heap.size) (hsz : cells.size = n * size) (hn : n ≤ maxLen) : OwnF (w.alloc (.cells cells elem)) (fun k => k = w.heap.size) w0.heap.size elem size (.slice (some ⟨w.heap.size, 0, none⟩) n n) n cells.toList :=
 ⟨⟨by simpa using hsz, .inr ⟨w.heap.size, n, cells, rfl, hle, heap_alloc_new w _, Nat.le_refl _, hn, hsz, List.take_of_length_le (by rw [Array.length_toList, hsz]; exact Nat.le_refl _)⟩⟩, fun g hg => (Option.some.inj hg).symm⟩
theorem news_own {w : World} {F : Nat → Prop} {base : Nat} {e : TypeId} {size n : Nat} {A : Option Addr} {c : Nat} {xs : List Value} (h : OwnF w F base e size (.slice A n c) n xs) (hA : 0 < n) : ∃ ad, A = some ad ∧ ∀ j u, xs[j]? = some u → w.cell? (ad.add j) = some u := by
 rcases h.1.2 with ⟨hv, _⟩ | ⟨g, cap, cur, hv, _⟩
 · injection hv with h1 h2 h3; omega
 ·
  injection hv with h1 h2 h3
  subst h1
  exact ⟨_, rfl, h.1.cells rfl⟩
/-! ### One row that was there is appended to -/
theorem own_low_ne {w : World} {base : Nat} {e : TypeId} {size n k : Nat} {v : Value} {xs : List Value} (h : w.ownsRow base e size v n xs) (hk : k < base) : v.ownBlock ≠ some k := fun e1 => by
 have := (h.lt k e1).1; omega
end
theorem own_high_ne {w : World} {base : Nat} {e : TypeId} {size n k : Nat} {v : Value} {xs : List Value} (h : w.ownsRow base e size v n xs) (hk : w.heap.size ≤ k) : v.ownBlock ≠ some k := fun e1 => by
  have := (h.lt k e1).2; omega
end Go.Proofs.Ytepgpihobmjbdaa
end
section
namespace Go.Proofs.Ytepgpihobmjbdaa
open Go.RowKit
theorem within_anyQ (n lo hi : Int) (w : World) :
  Calls Try.prog 18 #[.int .i64 n, .int .i64 lo, .int .i64 hi] w fun e w' => e = .returned (.bool (winB n lo hi)) ∧ w = w' := by
 by_cases h1 : lo ≤ n <;> by_cases h2 : n ≤ hi
 all_goals
  go_enter Try.func18, Try.ntmps18
  go_wp2
  go_ret
  exact ⟨by simp [winB, *], rfl⟩
def vecV (v : Vec) : Value := .agg #[.int .i64 v.x, .int .i64 v.y, .int .i64 v.l]
set_option maxHeartbeats 1000000 in
set_option maxRecDepth 100000 in
theorem direction_any (rose a : Int) (w : World) (h1 : 1 ≤ rose) (h2 : rose ≤ 180) (h3 : 0 ≤ a) (h4 : a ≤ 4 * rose - 1) :
  Calls Try.prog 59 #[.int .i64 rose, .int .i64 a] w fun e w' => e = .returned (vecV (dirV rose a)) ∧ Below w.heap.size w w' := by
 obtain ⟨hq, k1, k2, p1, p2, r1, r2, s1, s2⟩ := dir_bd h1 h2 h3 h4
 have hV : dirV rose a = quarter (a / rose) (2 * rose * (a % rose)) (rose * rose - a % rose * (a % rose)) (rose * rose + a % rose * (a % rose)) := rfl
 generalize dirV rose a = v at *
 rcases hq with hq | hq | hq | hq
 all_goals
  rw [hq] at hV
  have HV := hide hV
  clear hV
  go_enter Try.func59, Try.ntmps59
  go_wp2
  refine bodyPost_ret (v := vecV v) (by rw [HV.out]; simp [quarter, vecV, results, Try.results59, go_sem]) rfl ⟨rfl, ?_⟩
  repeat (first | exact Below.refl _ _ | (refine Below.setCell ?_ (by first | omega | (simp <;> omega)) _) | (refine Below.alloc ?_ (by first | omega | (simp <;> omega)) _) | (refine below_drewN ?_ _))
set_option maxHeartbeats 1000000 in
set_option maxRecDepth 100000 in
theorem slantOf_any (t : Int) (w : World) (h1 : -8 ≤ t) (h2 : t ≤ 264) :
  Calls Try.prog 52 #[.int .i64 t] w fun e w' => e = .returned (vecV (slantV t)) ∧ Below w.heap.size w w' := by
 obtain ⟨a1, a2⟩ := tilt_bd h1 h2
 go_enter Try.func52, Try.ntmps52
 go_wp2
 refine bodyPost_ret (v := vecV (slantV t)) (by simp [slantV, vecV, results, Try.results52, go_sem]) rfl ⟨rfl, ?_⟩
 repeat (first | exact Below.refl _ _ | (refine Below.setCell ?_ (by first | omega | (simp <;> omega)) _) | (refine Below.alloc ?_ (by first | omega | (simp <;> omega)) _) | (refine below_drewN ?_ _))
end Go.Proofs.Ytepgpihobmjbdaa
end
section
namespace Go.Proofs.Ytepgpihobmjbdaa
open Go.RowKit
theorem downB_any (a b : Int) (w : World) (hb : 1 ≤ b) (hb2 : b ≤ 4611686018427387903) (h1 : -4611686018427387903 ≤ a) (h2 : a ≤ 4611686018427387903) :
  Calls Try.prog 37 #[.int .i64 a, .int .i64 b] w fun e w' => e = .returned (.int .i64 (a / b)) ∧ w = w' := by
 obtain ⟨q1, q2, q3, q4⟩ := tdiv_bds hb h1 h2
 have HE := hide (down_floor (a := a) (b := b) (by omega))
 by_cases ha : 0 ≤ a
 ·
  have hq := Int.tdiv_eq_ediv_of_nonneg ha (b := b)
  rw [hq] at q1 q2 q3 q4 HE
  clear hq
  have hm := Int.ediv_mul_le a (show b ≠ 0 by omega)
  go_enter Try.func37, Try.ntmps37
  go_wp2
  all_goals
   go_ret
   exact ⟨ret_int (HE.out.trans (by first | exact if_pos (by assumption) | exact if_neg (by omega))).symm, rfl⟩
 ·
  go_enter Try.func37, Try.ntmps37
  go_wp2
  all_goals
   go_ret
   exact ⟨ret_int (HE.out.trans (by first | exact if_pos (by assumption) | exact if_neg (by omega))).symm, rfl⟩
theorem upB_any (a b : Int) (w : World) (hb : 1 ≤ b) (hb2 : b ≤ 4611686018427387903) (h1 : -4611686018427387903 ≤ a) (h2 : a ≤ 4611686018427387903) :
  Calls Try.prog 38 #[.int .i64 a, .int .i64 b] w fun e w' => e = .returned (.int .i64 (cdiv a b)) ∧ w = w' := by
 obtain ⟨q1, q2, q3, q4⟩ := tdiv_bds hb h1 h2
 have HE := hide (up_ceil (a := a) (b := b) (by omega))
 by_cases ha : 0 ≤ a
 ·
  have hq := Int.tdiv_eq_ediv_of_nonneg ha (b := b)
  rw [hq] at q1 q2 q3 q4 HE
  clear hq
  go_enter Try.func38, Try.ntmps38
  go_wp2
  all_goals
   go_ret
   exact ⟨ret_int (HE.out.trans (by first | exact if_pos (by assumption) | exact if_neg (by omega))).symm, rfl⟩
 ·
  go_enter Try.func38, Try.ntmps38
  go_wp2
  all_goals
   go_ret
   exact ⟨ret_int (HE.out.trans (by first | exact if_pos (by assumption) | exact if_neg (by omega))).symm, rfl⟩
theorem Blk.site8 {w : World} {g : Nat} {t : TypeId} {a0 a1 a2 a3 a4 a5 a6 a7 : Value} (h : Blk w g t #[a0, a1, a2, a3, a4, a5, a6, a7]) : w.cell? ⟨g, 0, none⟩ = some a0 ∧ w.cell? ⟨g, 1, none⟩ = some a1 ∧ w.cell? ⟨g, 2, none⟩ = some a2 ∧ w.cell? ⟨g, 3, none⟩ = some a3 ∧ w.cell? ⟨g, 4, none⟩ = some a4 ∧ w.cell? ⟨g, 5, none⟩ = some a5 ∧ w.cell? ⟨g, 6, none⟩ = some a6 ∧ w.cell? ⟨g, 7, none⟩ = some a7 :=
 ⟨h.c 0 rfl, h.c 1 rfl, h.c 2 rfl, h.c 3 rfl, h.c 4 rfl, h.c 5 rfl, h.c 6 rfl, h.c 7 rfl⟩
set_option maxHeartbeats 2000000 in
set_option maxRecDepth 100000 in
theorem CheckSite_any (s : ByteArray) (nb : Bool) (x y z r g st wd : Int) (w : World) (hnm : ∀ W, Calls Try.prog 17 #[.string s] W fun e w' => e = .returned (.bool nb) ∧ Below W.heap.size W w') :
  Calls Try.prog 5 #[.agg #[.string s, .int .i64 x, .int .i64 y, .int .i64 z, .int .i64 r, .int .i64 g, .int .i64 st, .int .i64 wd]] w fun e w' => e = .returned (.int .i64 (siteE nb x y z r g st wd)) ∧ Below w.heap.size w w' := by
 have Hnm := hide hnm
 clear hnm
 cases nb with
 | true =>
  go_enter Try.func5, Try.ntmps5
  have HB := hide (Below.refl w.heap.size w)
  go_wp2_with fail
  refine at_world fun W hW => ?_
  have bq0 : Blk W w.heap.size 28 #[.string s, .int .i64 x, .int .i64 y, .int .i64 z, .int .i64 r, .int .i64 g, .int .i64 st, .int .i64 wd] := by rw [hW]; exact Blk.new _ _ _
  have LW : Later w W := by rw [hW]; exact ((Below.refl _ _).alloc (Nat.le_refl _) _)
  have szW : W.heap.size = w.heap.size + 1 := by rw [hW]; simp
  clear hW
  replace HB := hide (onward HB.out LW)
  have Hs := hide bq0
  clear bq0 LW szW
  refine (Hnm.out _).mono ?_
  rintro e w1 ⟨rfl, hb⟩
  replace HB := hide (onward HB.out hb)
  replace Hs := hide (blk_later Hs.out hb)
  clear hb
  obtain ⟨q0, q1, q2, q3, q4, q5, q6, q7⟩ := Hs.out.site8
  have lts := Hs.out.lt
  go_wp2_with (go_at_call 18; refine (within_anyQ _ _ _ _).mono ?_; rintro e w' ⟨rfl, rfl⟩)
  all_goals
   go_ret
   simp only [Bool.not_eq_true', Bool.not_eq_false'] at *
   refine ⟨ret_int ?_, HB.out⟩
   first | (simp [siteE, *]; done) | (exfalso; clear Hnm HB Hs q0 q1 q2 q3 q4 q5 q6 q7; simp_all; done)
 | false =>
  go_enter Try.func5, Try.ntmps5
  have HB := hide (Below.refl w.heap.size w)
  go_wp2_with fail
  refine at_world fun W hW => ?_
  have bq0 : Blk W w.heap.size 28 #[.string s, .int .i64 x, .int .i64 y, .int .i64 z, .int .i64 r, .int .i64 g, .int .i64 st, .int .i64 wd] := by rw [hW]; exact Blk.new _ _ _
  have LW : Later w W := by rw [hW]; exact ((Below.refl _ _).alloc (Nat.le_refl _) _)
  have szW : W.heap.size = w.heap.size + 1 := by rw [hW]; simp
  clear hW
  replace HB := hide (onward HB.out LW)
  have Hs := hide bq0
  clear bq0 LW szW
  refine (Hnm.out _).mono ?_
  rintro e w1 ⟨rfl, hb⟩
  replace HB := hide (onward HB.out hb)
  replace Hs := hide (blk_later Hs.out hb)
  clear hb
  go_wp2
  go_ret
  exact ⟨ret_int (by simp [siteE]), HB.out⟩
end Go.Proofs.Ytepgpihobmjbdaa
end
section
namespace Go.Proofs.Ytepgpihobmjbdaa
open Go Go.RowKit
def ownFill (i : Nat) (v : Value) : List (Nat × Nat) := match v.ownBlock with | some g => [(i, g)] | none => []
theorem mem_ownFill {i : Nat} {v : Value} {p : Nat × Nat} : p ∈ ownFill i v ↔ p.1 = i ∧ v.ownBlock = some p.2 := by
 unfold ownFill
 cases v.ownBlock with
 | none => simp
 | some g =>
  simp only [List.mem_singleton, Option.some.injEq]
  exact ⟨fun h => by rw [h]; exact ⟨rfl, rfl⟩, fun h => Prod.ext h.1 h.2.symm⟩
def FreshOr (B : Nat) (v v' : Value) : Prop := v'.ownBlock = v.ownBlock ∨ ∃ g, v'.ownBlock = some g ∧ B ≤ g
section
variable {P : Program} {lops : List Oper} {an : List (List Nat)} {m1 m2 : List Bool} {st : List St} {w0 : World} {a0 : Act} {af : (Nat → Par) → Act} {shape : Nat → Par → Value} {wr : Nat → Nat → Prop} {R : Nat → (Nat → Par) → (Nat → Prop) → World → Prop} {s : St} {o : Oper}
variable {i f T B k : Nat} {v : Value}
theorem kbS {D : World → Prop} {S : Nat → Prop} {w : World} (hD : Good S w D) (h : ∀ k, k < B → S k) (x : Of D) : Below B w x.val := by
 have h' := hD.low _ x.ok
 exact ⟨h'.os, h'.tape, h'.output, h'.size, fun k hk => h'.block k (h k hk)⟩
theorem obl_pushQ (t : TypeId) (sp pp : Tmp) (ha : isAppend lops[s.i]? t sp pp = true)
  (base : Nat) (e : TypeId) (i0 : TypeInfo) (z : Value) (size bytes : Nat) (ht : P.underlying t = some (.slice e)) (hi : P.info? e = some i0) (hz : i0.zero = some z) (hsize : i0.size = size) (hby : i0.bytes = bytes) (hzs : z.cells.size = size) (hsz : 0 < size)
  (v0 : Value) (n m : Nat) (xs news : List Value) (hl : news.length = m * size) (h1 : ∀ u ∈ news, u.oneCell' = true) (h63 : n + m ≤ maxLen) (hbytes : (n + m) * bytes ≤ 140737488355328) (hbase : base ≤ w0.heap.size)
  (hv : ∀ (x : Nat → Par) (w : World) (F : Nat → Nat → Prop), Kept (fun k => k < w0.heap.size ∧ Eb an st wr s.i k) w0 w → (∀ j ∈ s.need, R j x (F j) w) →
   ∃ ad c, (af x).tmps.getD sp undef = v0 ∧ w.ownsRow base e size v0 n xs ∧ (∀ g, v0.ownBlock = some g → wr s.i g) ∧ (af x).tmps.getD pp undef = .slice (some ad) m c ∧ (∀ j u, news[j]? = some u → w.cell? (ad.add j) = some u))
  (hsh : ∀ y, shape s.i y = .slice (y 0).1 (n + m) (y 0).2)
  (hR : ∀ (x : Nat → Par) (F : Nat → Prop) (w : World) (y : Par), OwnF w F base e size (.slice (y 0).1 (n + m) (y 0).2) (n + m) (xs ++ news) → FreshOr w0.heap.size v0 (.slice (y 0).1 (n + m) (y 0).2) → R s.i (upd x s.i y) F w) : Obl P lops an st wr w0 af shape R s := by
 intro x w F hk hn
 cases ho' : lops[s.i]? with
 | none => rw [ho'] at ha; simp [isAppend] at ha
 | some o =>
  rw [ho'] at ha
  obtain ⟨d, ty, pos, aft, heq⟩ := isAppend_spec ha
  have e1 := Option.some.inj heq
  subst e1
  obtain ⟨ad, c, hs, hown, hgv, hx, hnews⟩ := hv x w F hk fun j hj => (hn j hj).2
  obtain ⟨v', w', hr, hown', hgrow, _, hat⟩ := run_append_own_at (P := P) w base t ty e i0 z size bytes ht hi hz hsize hby hzs hsz v0 n xs hown ad m c news hl hnews h1 h63 hbytes (Nat.le_trans hbase hk.size)
  obtain ⟨A, cc, rfl⟩ := own_shape2 hown'
  refine ⟨_, rfl, by simp [Region.wanted], hrun_value (v := .slice A (n + m) cc) (w' := w') ?_ ⟨fun _ => (A, cc), fun k => (Value.slice A (n + m) cc).ownBlock = some k, (hsh fun _ => (A, cc)).symm, ⟨hgrow.os, hgrow.tape, hgrow.output, hgrow.size, fun k hk => hgrow.block k hk.1 fun e2 => hk.2 ?_⟩, fun k hk => ⟨(hown'.lt k hk).2, ?_⟩, hR x _ _ _ ⟨hown', fun g hg => hg⟩ ?_⟩⟩
  · simp only [execOp, resolve, invoke, builtin, Sem.run_bind, Sem.run_pure, Result.andThen_ok, List.map_toArray, List.map_cons, List.map_nil, Act.eval, hs, hx, hr]
  · exact .inl (hgv k e2.symm)
  ·
   rcases hat with h | h
   · exact .inr (.inl (hgv k (h.symm.trans hk)))
   ·
    left
    rw [h] at hk
    exact Nat.le_of_eq (Option.some.inj hk)
  ·
   rcases hat with h | h
   · exact .inl h
   · exact .inr ⟨_, h, hk.size⟩
theorem owe_pushQ (i : Nat) (B base : Nat) (v0 : Value) (e : TypeId) (size n : Nat) (xs : List Value) (hs : s.i = i) (hR : ∀ (x : Nat → Par) (F : Nat → Prop) (w : World), R s.i x F w = (OwnF w F base e size (.slice (x i 0).1 n (x i 0).2) n xs ∧ FreshOr B v0 (.slice (x i 0).1 n (x i 0).2))) : Owes R s :=
 ⟨fun x F w w' h _ hk => by rw [hR] at *; exact ⟨h.1.stab hk, h.2⟩, fun x x' F w hx h => by
  rw [hR] at *
  subst hs
  rw [← hx s.i (.inl rfl)]; exact h⟩
theorem new_cellsQ (w : World) (t : TypeId) (l : List Value) (j : Nat) (u : Value) (h : l[j]? = some u) : (w.alloc (.cells ⟨l⟩ t)).cell? ((⟨w.heap.size, 0, none⟩ : Addr).add j) = some u := by
 rw [show (⟨w.heap.size, 0, none⟩ : Addr).add j = ⟨w.heap.size, j, none⟩ by unfold Addr.add; split <;> simp_all]
 rw [(Blk.new w t ⟨l⟩).cell j]; simpa using h
def Apart (u v : Value) : Prop := u.ownBlock = none ∨ u.ownBlock ≠ v.ownBlock
theorem Apart.symm {u v : Value} (h : Apart u v) : Apart v u := by
 unfold Apart at *
 rcases h with h | h
 · rw [h]; cases hv : v.ownBlock <;> simp
 · exact .inr (Ne.symm h)
theorem apart_nil (v : Value) : Apart (.slice none 0 0) v := .inl rfl
theorem apart_ne {u v : Value} {g : Nat} (h : Apart u v) (hg : v.ownBlock = some g) : u.ownBlock ≠ some g := fun e => by
 rcases h with h | h
 · rw [h] at e; cases e
 · exact h (e.trans hg.symm)
end
end Go.Proofs.Ytepgpihobmjbdaa
end
