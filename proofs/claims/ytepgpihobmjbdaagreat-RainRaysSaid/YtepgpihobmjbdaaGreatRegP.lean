/-
  Regions that draw their order: the law as it is used. The quiet operations are met in one or two walks in the text's order, the hard ones one by one.
  Regions that draw their order: a store of one number into a block that is known whole, among what is left.
  Regions that draw their order: what each kind of hard operation owes.
  Regions that draw their order: appends. To a row that the region itself has made; to a row that was there.
-/
import Derived.Test.YtepgpihobmjbdaaGreatRegAll
import Derived.Test.YtepgpihobmjbdaaGreatRegionStep
import Derived.Maps.AppendAt
set_option linter.unusedSimpArgs false
set_option linter.unusedVariables false
namespace Go.Proofs.YtepgpihobmjbdaaGreat
open Go Go.RowKit

def plainB (o : Oper) : Bool := match o.op with
  | .move _ | .assign _ | .build _ _ | .buildSlice _ _ _ | .load _ _ | .store _ _ _ | .binOp _ _ _ _ _ | .unOp _ _ _ | .convert _ _ _ | .slice _ _ _ _ _ | .fieldAddr _ _ _ | .field _ _ _ | .indexAddr _ _ _ | .index _ _ _ | .extract _ _ | .alloc _ | .box _ _ | .pick _ _ _ => true
  | .call { callee := .builtin .len, .. } | .call { callee := .builtin .cap, .. } | .call { callee := .builtin .min, .. } | .call { callee := .builtin .max, .. } => true
  | _ => false
theorem run_pick_ne {s : Sem Bool} {P : Program} {w w' : World} {f : FuncId} {args : Array Value} {u v : Value} : ((do pure (Next.value (if ← s then u else v))) : Sem Next).run P w ≠ .ok (.enter f args) w' := by
  rw [Sem.run_bind]
  cases s.run P w with
  | ok b w1 => simp [Result.andThen]
  | halt x w1 => simp [Result.andThen]
theorem plain_ne {o : Oper} (h : plainB o = true) {P : Program} (e : Operand → Value) (w : World) (f : FuncId) (args : Array Value) (w' : World) : (execOp e o).run P w ≠ .ok (.enter f args) w' := by
  obtain ⟨dst, op, ty, pos, aft, gd⟩ := o
  cases op
  case call c =>
    obtain ⟨callee, cargs, cty⟩ := c
    cases callee with
    | builtin b =>
      cases b <;> simp only [plainB, Bool.false_eq_true] at h
      all_goals
        simp only [execOp, resolve, Sem.run_bind, Sem.run_pure, Result.andThen_ok, invoke, builtin]
        generalize Sem.run P _ w = r
        cases r <;> simp [Result.andThen]
    | _ => simp [plainB] at h
  all_goals (simp only [plainB, Bool.false_eq_true] at h <;> first
    | (simp only [execOp]; exact run_value_ne)
    | (simp only [execOp]; exact run_skip_ne)
    | (simp only [execOp]; exact run_pick_ne)
    | (simp [execOp, Sem.run_pure]))

/-- The slots of the quiet calls. -/
def slotsB (m1 m2 : List Bool) (lops : List Oper) (ds : List Tmp) : Bool := (takeOps m1 lops ++ takeOps m2 lops).all fun o => plainB o || match o.dst with | some d => ds.contains d | none => true
def putH (shape : Nat → Par → Value) (x : Nat → Par) (lops : List Oper) : List St → Act → Act
  | [], a => a
  | s :: t, a => putH shape x lops t (a.put ((lops[s.i]?).bind (·.dst)) (shape s.i (x s.i)))

section
variable {P : Program} {lops : List Oper} {an : List (List Nat)} {m1 m2 : List Bool} {st : List St} {w0 : World} {a0 : Act} {shape : Nat → Par → Value} {wr : Nat → Nat → Prop} {R : Nat → (Nat → Par) → (Nat → Prop) → World → Prop}

theorem putH_size (x : Nat → Par) : ∀ (l : List St) (a : Act), (putH shape x lops l a).tmps.size = a.tmps.size
  | [], _ => rfl
  | s :: t, a => (putH_size x t _).trans (put_size _ _ _)
theorem putH_defers (x : Nat → Par) : ∀ (l : List St) (a : Act), (putH shape x lops l a).defers = a.defers
  | [], _ => rfl
  | s :: t, a => (putH_defers x t _).trans (put_defers _ _ _)
theorem putH_out (x : Nat → Par) {d : Tmp} : ∀ (l : List St) (a : Act), (∀ s ∈ l, (lops[s.i]?).bind (·.dst) ≠ some d) → (putH shape x lops l a).tmps[d]? = a.tmps[d]?
  | [], _, _ => rfl
  | s :: t, a, h => (putH_out x t _ (fun s' hs' => h s' (List.mem_cons_of_mem _ hs'))).trans (put_far (h s List.mem_cons_self))
theorem putH_in (hd : dstB lops = true) (x : Nat → Par) {d : Tmp} : ∀ (l : List St) (a : Act), ∀ s ∈ l, (lops[s.i]?).bind (·.dst) = some d → d < a.tmps.size → (putH shape x lops l a).tmps[d]? = some (shape s.i (x s.i))
  | [], _, s, hs, _, _ => by cases hs
  | s' :: t, a, s, hs, he, hlt => by
    by_cases h : ∃ s2 ∈ t, (lops[s2.i]?).bind (·.dst) = some d
    · obtain ⟨s2, hs2, he2⟩ := h
      have e : s.i = s2.i := by
        obtain ⟨o, ho, hdo⟩ := Option.bind_eq_some_iff.1 he
        obtain ⟨o2, ho2, hdo2⟩ := Option.bind_eq_some_iff.1 he2
        exact dst_one lops hd _ _ _ _ d ho ho2 hdo hdo2
      rw [e]
      exact putH_in hd x t _ s2 hs2 he2 (by rw [put_size]; exact hlt)
    · have hs' : s = s' := (List.mem_cons.1 hs).resolve_right fun h' => h ⟨s, h', he⟩
      subst hs'
      show (putH shape x lops t (a.put ((lops[s.i]?).bind (·.dst)) (shape s.i (x s.i)))).tmps[d]? = _
      rw [putH_out x t _ fun s2 hs2 h2 => h ⟨s2, hs2, h2⟩, he, put_at, if_pos rfl, if_pos hlt]

theorem mem_take {o : Oper} : ∀ (m : List Bool) (l : List Oper), o ∈ takeOps m l → ∃ j, m.getD j false = true ∧ l[j]? = some o
  | [], l, h => by cases l <;> simp [takeOps] at h
  | true :: m, [], h => by simp [takeOps] at h
  | false :: m, [], h => by simp [takeOps] at h
  | true :: m, o' :: l, h => by
    simp only [takeOps] at h
    rcases List.mem_cons.1 h with rfl | h
    · exact ⟨0, rfl, rfl⟩
    · obtain ⟨j, h1, h2⟩ := mem_take m l h
      exact ⟨j + 1, by simpa using h1, by simpa using h2⟩
  | false :: m, o' :: l, h => by
    simp only [takeOps] at h
    obtain ⟨j, h1, h2⟩ := mem_take m l h
    exact ⟨j + 1, by simpa using h1, by simpa using h2⟩

/-- One walk: what it has left alone, and what each of its operations yields at its end. -/
theorem walk_spec {ops : Array Oper} {C : World → Prop} {af : Act} : ∀ (m : List Bool) (l : List Oper) (a : Act), (∀ o ∈ l, ∀ cs b, o.op ≠ .select cs b) → dstB l = true → (∀ (i : Nat) (oi : Oper) (j : Nat) (oj : Oper) (d : Tmp), l[i]? = some oi → l[j]? = some oj → oj.dst = some d → d ∈ oi.looksAt ops → j < i) →
    wpQuiet P ops C (fun a' => a' = af) (takeOps m l) a →
    (af.tmps.size = a.tmps.size ∧ af.defers = a.defers ∧ (∀ d, (∀ o ∈ takeOps m l, o.dst ≠ some d) → af.tmps[d]? = a.tmps[d]?)) ∧
      ∀ j oj, m.getD j false = true → l[j]? = some oj → ∃ v, Holds af oj v ∧ YieldsIn P ops C oj v af
  | [], l, a, _, _, _, h => by
    have e : takeOps [] l = [] := by cases l <;> rfl
    rw [e] at h ⊢
    have : a = af := h
    subst this
    exact ⟨⟨rfl, rfl, fun _ _ => rfl⟩, fun j oj hj => by simp at hj⟩
  | true :: m, [], a, _, _, _, h => by
    have : a = af := h
    subst this
    exact ⟨⟨rfl, rfl, fun _ _ => rfl⟩, fun j oj _ hj => by simp at hj⟩
  | false :: m, [], a, _, _, _, h => by
    have : a = af := h
    subst this
    exact ⟨⟨rfl, rfl, fun _ _ => rfl⟩, fun j oj _ hj => by simp at hj⟩
  | false :: m, o :: l, a, hs, hd, hr, h => by
    simp only [dstB, Bool.and_eq_true] at hd
    obtain ⟨h1, h2⟩ := walk_spec m l a (fun o ho => hs o (List.mem_cons_of_mem _ ho)) hd.2 (fun i oi j oj d hi hj => fun h3 h4 => by have := hr (i + 1) oi (j + 1) oj d (by simpa using hi) (by simpa using hj) h3 h4; omega) h
    refine ⟨h1, fun j oj hm hj => ?_⟩
    cases j with
    | zero => simp at hm
    | succ j => exact h2 j oj (by simpa using hm) (by simpa using hj)
  | true :: m, o :: l, a, hs, hd, hr, h => by
    have hd' := hd
    simp only [dstB, Bool.and_eq_true] at hd
    have hex : ∃ v, YieldsIn P ops C o v a ∧ wpQuiet P ops C (fun a' => a' = af) (takeOps m l) (a.put o.dst v) := by
      simp only [takeOps] at h
      unfold wpQuiet at h
      split at h
      · rename_i hw
        obtain ⟨v, h1, h2⟩ := h
        exact ⟨v, .inl ⟨hw, h1⟩, h2⟩
      · rename_i hw
        exact ⟨undef, .inr ⟨by simpa using hw, rfl⟩, h⟩
    obtain ⟨v, hy, hn⟩ := hex
    obtain ⟨⟨s1, s2, s3⟩, h2⟩ := walk_spec m l _ (fun o ho => hs o (List.mem_cons_of_mem _ ho)) hd.2 (fun i oi j oj d hi hj => fun h3 h4 => by have := hr (i + 1) oi (j + 1) oj d (by simpa using hi) (by simpa using hj) h3 h4; omega) hn
    have far : ∀ d, o.dst = some d → ∀ o' ∈ takeOps m l, o'.dst ≠ some d := fun d hod o' ho' he => by
      obtain ⟨j, _, hj⟩ := mem_take m l ho'
      have := dst_one (o :: l) hd' 0 (j + 1) o o' d rfl (by simpa using hj) hod he
      omega
    refine ⟨⟨s1.trans (put_size _ _ _), s2.trans (put_defers _ _ _), fun d hdd => ?_⟩, fun j oj hm hj => ?_⟩
    · simp only [takeOps] at hdd
      rw [s3 d fun o' ho' => hdd o' (List.mem_cons_of_mem _ ho'), put_far (hdd o List.mem_cons_self)]
    · cases j with
      | succ j => exact h2 j oj (by simpa using hm) (by simpa using hj)
      | zero =>
        have e : oj = o := by simpa using hj.symm
        subst e
        refine ⟨v, fun d hod hlt => ?_, ?_⟩
        · rw [s3 d (far d hod), hod, put_at, if_pos rfl, if_pos (by rw [put_size] at s1; rw [← s1]; exact hlt)]
        · have agree : ∀ t ∈ oj.looksAt ops, af.tmps[t]? = a.tmps[t]? := fun t ht => by
            have h0 : oj.dst ≠ some t := fun he => by have := hr 0 oj 0 oj t rfl rfl he ht; omega
            rw [s3 t fun o' ho' he => by
              obtain ⟨j, _, hj⟩ := mem_take m l ho'
              have := hr 0 oj (j + 1) o' t rfl (by simpa using hj) he ht
              omega, put_far h0]
          exact hy.of_same (exec_agree (ops := ops) (hs oj List.mem_cons_self) agree) (wanted_agree agree)

theorem read_lt (hk : Chk lops an m1 m2 st) : ∀ (i : Nat) (oi : Oper) (j : Nat) (oj : Oper) (d : Tmp), lops[i]? = some oi → lops[j]? = some oj → oj.dst = some d → d ∈ oi.looksAt lops.toArray → j < i :=
  fun i oi j oj d hi hj hd hm => hk.back i oi hi j (hk.reads i oi j oj d hi hj hd hm).1

theorem of_walks {b af : (Nat → Par) → Act} (hk : Chk lops an m1 m2 st) {S1 S2 : Nat → Prop}
    (hS1 : ∀ k, S1 k → k < w0.heap.size ∧ ∀ i, m1.getD i false = true → Eb an st wr i k) (hS2 : ∀ k, S2 k → k < w0.heap.size ∧ ∀ i, m2.getD i false = true → Eb an st wr i k)
    (hq1 : ∀ x D, Good S1 w0 D → wpQuiet P lops.toArray (fun w' => ∃ y : Of D, w' = y.val) (fun a' => a' = b x) (takeOps m1 lops) (putH shape x lops st a0))
    (hq2 : ∀ x D, Good S2 w0 D → wpQuiet P lops.toArray (fun w' => ∃ y : Of D, w' = y.val) (fun a' => a' = af x) (takeOps m2 lops) (b x))
    {ds : List Tmp} (hds : slotsB m1 m2 lops ds = true) (hcall : ∀ d ∈ ds, ∀ x x', (af x).tmps.getD d undef = (af x').tmps.getD d undef) : AfOk P lops an st wr w0 a0 af shape := by
  have hns : ∀ o ∈ lops, ∀ cs b, o.op ≠ .select cs b := fun o ho cs b => by
    obtain ⟨j, hj⟩ := List.mem_iff_getElem?.1 ho
    exact hk.nosel j o cs b hj
  have W1 := fun x D (hD : Good S1 w0 D) => walk_spec m1 lops _ hns hk.dst (read_lt hk) (hq1 x D hD)
  have W2 := fun x D (hD : Good S2 w0 D) => walk_spec m2 lops _ hns hk.dst (read_lt hk) (hq2 x D hD)
  have d1 : Good S1 w0 (Kept (fun k => k < w0.heap.size) w0) := ⟨fun w h => h.weak fun k hk' => (hS1 k hk').1, fun _ _ h h' => kept_later (fun k hk' => hk') h h', w0, Kept.refl _ _⟩
  have d2 : Good S2 w0 (Kept (fun k => k < w0.heap.size) w0) := ⟨fun w h => h.weak fun k hk' => (hS2 k hk').1, fun _ _ h h' => kept_later (fun k hk' => hk') h h', w0, Kept.refl _ _⟩
  have A1 := fun x => (W1 x _ d1).1
  have A2 := fun x => (W2 x _ d2).1
  have not1 : ∀ s ∈ st, ∀ (o : Oper) (d : Tmp), lops[s.i]? = some o → o.dst = some d → ∀ o' ∈ takeOps m1 lops, o'.dst ≠ some d := fun s hs o d ho hd o' ho' he => by
    obtain ⟨j, hm, hj⟩ := mem_take m1 lops ho'
    have := dst_one lops hk.dst _ _ _ _ d ho hj hd he
    exact (hk.kind1 j (List.getElem?_eq_some_iff.1 hj).1 hm).2 s hs this
  have not2 : ∀ s ∈ st, ∀ (o : Oper) (d : Tmp), lops[s.i]? = some o → o.dst = some d → ∀ o' ∈ takeOps m2 lops, o'.dst ≠ some d := fun s hs o d ho hd o' ho' he => by
    obtain ⟨j, hm, hj⟩ := mem_take m2 lops ho'
    have := dst_one lops hk.dst _ _ _ _ d ho hj hd he
    exact (hk.kind2 j (List.getElem?_eq_some_iff.1 hj).1 hm).2 s hs this
  have take_mem : ∀ (m : List Bool) (o : Oper), o ∈ takeOps m lops → o ∈ lops := fun m o h => by
    obtain ⟨j, _, hj⟩ := mem_take m lops h
    exact List.mem_of_getElem? hj
  refine ⟨fun x => (A2 x).1.trans ((A1 x).1.trans (putH_size x _ _)), fun x => (A2 x).2.1.trans ((A1 x).2.1.trans (putH_defers x _ _)), fun x d hd => ?_, fun x s hs o ho d hd hlt => ?_, fun x i o ho hq D hD => ?_, fun x x' i o ho hq => ?_⟩
  · rw [(A2 x).2.2 d fun o ho => hd o (take_mem _ _ ho), (A1 x).2.2 d fun o ho => hd o (take_mem _ _ ho), putH_out x st a0 fun s _ he => ?_]
    obtain ⟨o, ho, hdo⟩ := Option.bind_eq_some_iff.1 he
    exact hd o (List.mem_of_getElem? ho) hdo
  · have h1 : d < a0.tmps.size := by rw [(A2 x).1, (A1 x).1, putH_size] at hlt; exact hlt
    rw [(A2 x).2.2 d (not2 s hs o d ho hd), (A1 x).2.2 d (not1 s hs o d ho hd)]
    exact putH_in hk.dst x st a0 s hs (by rw [ho]; exact hd) h1
  · have hin : i < lops.length := (List.getElem?_eq_some_iff.1 ho).1
    rcases hk.kind3 i hin hq with hm | hm
    · have hD1 : Good S1 w0 D := ⟨fun w hw => (hD.low w hw).weak fun k hk' => ⟨(hS1 k hk').1, (hS1 k hk').2 i hm⟩, hD.up, hD.ne⟩
      obtain ⟨v, hv, hy⟩ := (W1 x D hD1).2 i o hm ho
      have no2 : ∀ t ∈ o.looksAt lops.toArray, ∀ o' ∈ takeOps m2 lops, o'.dst ≠ some t := fun t ht o' ho' he => by
        obtain ⟨j, hm2, hj⟩ := mem_take m2 lops ho'
        exact (hk.reads i o j o' t ho hj he ht).2 ⟨hm, hm2⟩
      have agree : ∀ t ∈ o.looksAt lops.toArray, (af x).tmps[t]? = (b x).tmps[t]? := fun t ht => (A2 x).2.2 t (no2 t ht)
      refine ⟨v, fun d hd hlt => ?_, ?_⟩
      · rw [(A2 x).2.2 d fun o' ho' he => ?_]
        · exact hv d hd (by rw [← (A2 x).1]; exact hlt)
        · obtain ⟨j, hm2, hj⟩ := mem_take m2 lops ho'
          have := dst_one lops hk.dst _ _ _ _ d ho hj hd he
          subst this
          rw [(hk.kind1 i hin hm).1] at hm2
          cases hm2
      · have e : (fun w' => ∃ y : Of D, w' = y.val) = D := cls_eq D
        rw [e] at hy
        exact hy.of_same (exec_agree (ops := lops.toArray) (hk.nosel i o · · ho) agree) (wanted_agree agree)
    · have hD2 : Good S2 w0 D := ⟨fun w hw => (hD.low w hw).weak fun k hk' => ⟨(hS2 k hk').1, (hS2 k hk').2 i hm⟩, hD.up, hD.ne⟩
      obtain ⟨v, hv, hy⟩ := (W2 x D hD2).2 i o hm ho
      have e : (fun w' => ∃ y : Of D, w' = y.val) = D := cls_eq D
      rw [e] at hy
      exact ⟨v, hv, hy⟩
  · by_cases hp : plainB o = true
    · exact .inl fun a w f args w' => plain_ne hp a.eval w f args w'
    · right
      have hin : i < lops.length := (List.getElem?_eq_some_iff.1 ho).1
      have hmem : o ∈ takeOps m1 lops ++ takeOps m2 lops := by
        have take_in : ∀ (m : List Bool) (l : List Oper) (j : Nat), m.getD j false = true → l[j]? = some o → o ∈ takeOps m l := fun m => by
          induction m with
          | nil => intro l j h; simp at h
          | cons b m ihm =>
            intro l j h hl
            cases l with
            | nil => simp at hl
            | cons o' l =>
              cases j with
              | zero =>
                have e1 : b = true := by simpa using h
                have e2 : o' = o := by simpa using hl
                subst e1; subst e2
                exact List.mem_cons_self
              | succ j =>
                have := ihm l j (by simpa using h) (by simpa using hl)
                cases b
                · exact this
                · exact List.mem_cons_of_mem _ this
        rcases hk.kind3 i hin hq with hm | hm
        · exact List.mem_append_left _ (take_in m1 lops i hm ho)
        · exact List.mem_append_right _ (take_in m2 lops i hm ho)
      have h1 := List.all_eq_true.1 hds o hmem
      simp only [Bool.or_eq_true, hp, Bool.false_eq_true, false_or] at h1
      unfold slotOf
      cases hod : o.dst with
      | none => rfl
      | some d =>
        rw [hod] at h1
        exact hcall d (by simpa using h1) x x'

def obls (P : Program) (lops : List Oper) (an : List (List Nat)) (all : List St) (wr : Nat → Nat → Prop) (w0 : World) (af : (Nat → Par) → Act) (shape : Nat → Par → Value) (R : Nat → (Nat → Par) → (Nat → Prop) → World → Prop) : List St → Prop
  | [] => True
  | s :: t => Obl P lops an all wr w0 af shape R s ∧ obls P lops an all wr w0 af shape R t
/-- What a fact owes: it stands as long as its memory does; it depends on few choices. -/
def Owes (R : Nat → (Nat → Par) → (Nat → Prop) → World → Prop) (s : St) : Prop :=
  (∀ x F w w', R s.i x F w → w.heap.size ≤ w'.heap.size → (∀ k, F k → w'.heap[k]? = w.heap[k]?) → R s.i x F w') ∧ (∀ x x' F w, (∀ j, j = s.i ∨ j ∈ s.dep → x j = x' j) → R s.i x F w → R s.i x' F w)
def owes (R : Nat → (Nat → Par) → (Nat → Prop) → World → Prop) : List St → Prop
  | [] => True
  | s :: t => Owes R s ∧ owes R t
def lives (all : List St) (R : Nat → (Nat → Par) → (Nat → Prop) → World → Prop) (x : Nat → Par) (F : Nat → Nat → Prop) (w : World) : List St → Prop
  | [] => True
  | s :: t => (all.all (fun s' => match s'.tgt with | some j => j != s.i | none => true) = true → R s.i x (F s.i) w) ∧ lives all R x F w t

theorem wp_region_XA {id : Nat} {Q : Exit → Act → World → Prop} {b af : (Nat → Par) → Act} (an : List (List Nat)) (m1 m2 : List Bool) (st : List St) (shape : Nat → Par → Value) (wr : Nat → Nat → Prop) (R : Nat → (Nat → Par) → (Nat → Prop) → World → Prop) (S1 S2 : Nat → Prop)
    (hm : P.follows .mixedOrders = true) (hb : regB .any lops an m1 m2 st = true)
    (hS1 : ∀ k, S1 k → k < w0.heap.size ∧ ∀ i, m1.getD i false = true → Eb an st wr i k) (hS2 : ∀ k, S2 k → k < w0.heap.size ∧ ∀ i, m2.getD i false = true → Eb an st wr i k)
    (hwl : ∀ s ∈ st, ∀ k, wr s.i k → k < w0.heap.size) (hwr : ∀ s ∈ st, ∀ s' ∈ st, s.i ≠ s'.i → ∀ k, wr s.i k → ¬ wr s'.i k)
    (hq1 : ∀ x D, Good S1 w0 D → wpQuiet P lops.toArray (fun w' => ∃ y : Of D, w' = y.val) (fun a' => a' = b x) (takeOps m1 lops) (putH shape x lops st a0))
    (hq2 : ∀ x D, Good S2 w0 D → wpQuiet P lops.toArray (fun w' => ∃ y : Of D, w' = y.val) (fun a' => a' = af x) (takeOps m2 lops) (b x))
    {ds : List Tmp} (hds : slotsB m1 m2 lops ds = true) (hcall : ∀ d ∈ ds, ∀ x x', (af x).tmps.getD d undef = (af x').tmps.getD d undef)
    (hob : obls P lops an st wr w0 af shape R st) (how : owes R st)
    (hfin : ∀ x w F, Kept (fun k => k < w0.heap.size ∧ ∀ s ∈ st, ¬ wr s.i k) w0 w → lives st R x F w st → Aparts st F → Q .normal (af x) w) :
    (Code.region id lops.toArray true).wp P Q a0 w0 := by
  have hk := chk_of hb
  have hok := of_walks hk hS1 hS2 hq1 hq2 hds hcall
  have ob : ∀ (l : List St), obls P lops an st wr w0 af shape R l → ∀ s ∈ l, Obl P lops an st wr w0 af shape R s := fun l => by
    induction l with
    | nil => intro _ s hs; cases hs
    | cons a l ih =>
      intro h s hs
      rcases List.mem_cons.1 hs with rfl | hs
      · exact h.1
      · exact ih h.2 s hs
  have ow : ∀ (l : List St), owes R l → ∀ s ∈ l, Owes R s := fun l => by
    induction l with
    | nil => intro _ s hs; cases hs
    | cons a l ih =>
      intro h s hs
      rcases List.mem_cons.1 hs with rfl | hs
      · exact h.1
      · exact ih h.2 s hs
  have lv : ∀ x w F (l : List St), (∀ s ∈ l, (∀ s' ∈ st, s'.tgt ≠ some s.i) → R s.i x (F s.i) w) → lives st R x F w l := fun x w F l => by
    induction l with
    | nil => intro _; trivial
    | cons a l ih =>
      intro h
      refine ⟨fun hl => h a List.mem_cons_self fun s' hs' ht => ?_, ih fun s hs => h s (List.mem_cons_of_mem _ hs)⟩
      have := List.all_eq_true.1 hl s' hs'
      rw [ht] at this
      simp at this
  refine wp_region_any hm (anyX hk hok (ob st hob) (fun s hs => (ow st how s hs).1) (fun s hs => (ow st how s hs).2) hwl hwr (fun x w F hkept hR hap => hfin x w F hkept (lv x w F st hR) hap) _ _ _ _ (fun _ _ => (none, 0)) (fun _ _ => False) ?_ ?_)
  · have := List.length_filter_le (fun i => !(Array.replicate lops.toArray.size false).getD i true) (List.range lops.length)
    simpa [unl] using this
  · have none : ∀ i, (Array.replicate lops.toArray.size false).getD i false = false := fun i => by
      simp [Array.getD]
    refine ⟨⟨by simp, fun j oj _ h => absurd ((none j).symm.trans h) (by simp)⟩, ⟨rfl, rfl, rfl, Nat.le_refl _, fun _ _ => rfl⟩, fun x _ => ⟨rfl, rfl, fun d => ⟨fun ⟨i, o, _, h, _⟩ => absurd ((none i).symm.trans h) (by simp), fun _ => rfl⟩⟩, fun s _ h => absurd ((none s.i).symm.trans h) (by simp), fun s _ _ _ h => absurd ((none s.i).symm.trans h) (by simp), fun s _ h => absurd ((none s.i).symm.trans h) (by simp)⟩
theorem wp_region_X {id : Nat} {Q : Exit → Act → World → Prop} {b af : (Nat → Par) → Act} (an : List (List Nat)) (m1 m2 : List Bool) (st : List St) (shape : Nat → Par → Value) (wr : Nat → Nat → Prop) (R : Nat → (Nat → Par) → (Nat → Prop) → World → Prop) (S1 S2 : Nat → Prop)
    (hm : P.follows .mixedOrders = true) (hb : regB .any lops an m1 m2 st = true)
    (hS1 : ∀ k, S1 k → k < w0.heap.size ∧ ∀ i, m1.getD i false = true → Eb an st wr i k) (hS2 : ∀ k, S2 k → k < w0.heap.size ∧ ∀ i, m2.getD i false = true → Eb an st wr i k)
    (hwl : ∀ s ∈ st, ∀ k, wr s.i k → k < w0.heap.size) (hwr : ∀ s ∈ st, ∀ s' ∈ st, s.i ≠ s'.i → ∀ k, wr s.i k → ¬ wr s'.i k)
    (hq1 : ∀ x D, Good S1 w0 D → wpQuiet P lops.toArray (fun w' => ∃ y : Of D, w' = y.val) (fun a' => a' = b x) (takeOps m1 lops) (putH shape x lops st a0))
    (hq2 : ∀ x D, Good S2 w0 D → wpQuiet P lops.toArray (fun w' => ∃ y : Of D, w' = y.val) (fun a' => a' = af x) (takeOps m2 lops) (b x))
    {ds : List Tmp} (hds : slotsB m1 m2 lops ds = true) (hcall : ∀ d ∈ ds, ∀ x x', (af x).tmps.getD d undef = (af x').tmps.getD d undef)
    (hob : obls P lops an st wr w0 af shape R st) (how : owes R st)
    (hfin : ∀ x w F, Kept (fun k => k < w0.heap.size ∧ ∀ s ∈ st, ¬ wr s.i k) w0 w → lives st R x F w st → Q .normal (af x) w) :
    (Code.region id lops.toArray true).wp P Q a0 w0 :=
  wp_region_XA an m1 m2 st shape wr R S1 S2 hm hb hS1 hS2 hwl hwr hq1 hq2 hds hcall hob how fun x w F hk hl _ => hfin x w F hk hl
end
end Go.Proofs.YtepgpihobmjbdaaGreat
namespace Go.Proofs.YtepgpihobmjbdaaGreat
open Go.RowKit
section
variable {P : Program} {md : Region.Mode} {ops : Array Oper} {S : Nat → Prop} {E : Nat → Bool}
theorem grown_setCell (w : World) (g off : Nat) (v : Value) : w.grownBy (w.setCell ⟨g, off, none⟩ v) (some g) :=
  ⟨rfl, rfl, rfl, by simp, fun k _ hne => Below.heap_setCell w ⟨g, off, none⟩ v k (fun e => hne (by rw [e]))⟩
theorem kept_setCell {w : World} {g off : Nat} {v : Value} (hg : ¬ S g) : Kept S w (w.setCell ⟨g, off, none⟩ v) :=
  ⟨rfl, rfl, rfl, by simp, fun k hk => Below.heap_setCell w ⟨g, off, none⟩ v k (fun e => hg (by have e' : k = g := e; rw [← e']; exact hk))⟩
theorem exec_store_cell {o : Oper} {t t' : TypeId} {p x : Operand} {g off : Nat} {old : Array Value} {z : Int} (h : o.op = .store t p x) {e : Operand → Value} {w : World} (hp : e p = .pointer (some ⟨g, off, none⟩)) (hx : e x = .int .i64 z)
    (hg : Blk w g t' old) (hi : (P.info? t).map (·.size) = some 1) (ho : off < old.size) :
    (execOp e o).run P w = .ok .skip (w.setCell ⟨g, off, none⟩ (.int .i64 z)) := by
  have hc : w.cell? ⟨g, off, none⟩ = some (old[off]'ho) := by rw [hg.cell off]; simp [ho]
  have hf := hg.frozen off
  cases hq : P.info? t with
  | none => simp [hq] at hi
  | some i =>
    have hs : i.size = 1 := by simpa [hq] using hi
    simp [execOp, h, hp, hx, go_sem, sizeOf, typeInfo, hq, hs, hc, hf]
theorem anyR_set1 {Q : Act → World → Prop} {f n : Nat} {listed : Array Bool} {a : Act} {w : World} (i : Nat) (t t' : TypeId) (p x : Tmp) (g off : Nat) (old new : Array Value) (z : Int) (r1 : Region.ready md ops listed = [i]) (hs : isStore ops[i]? t p x = true) (hn : n = f + 1)
    (hp : a.tmps.getD p undef = .pointer (some ⟨g, off, none⟩)) (hx : a.tmps.getD x undef = .int .i64 z) (hg : Blk w g t' old) (hi : (P.info? t).map (·.size) = some 1) (ho : off < old.size)
    (hnew : old.setIfInBounds off (.int .i64 z) = new) (hE : E i = true → ¬ S g)
    (h : ∀ w', w.grownBy w' (some g) → Blk w' g t' new → anyR P md ops S E Q f (listed.setIfInBounds i true) a w') : anyR P md ops S E Q n listed a w := by
  subst hn
  subst hnew
  refine anyR_one i _ r1 (beq_self_eq_true _) fun w1 h1' => ?_
  unfold isStore at hs
  split at hs
  · rename_i t1 p1 x1 ty pos aft heq
    simp only [Bool.and_eq_true, beq_iff_eq] at hs
    obtain ⟨⟨rfl, rfl⟩, rfl⟩ := hs
    refine opR_of heq rfl ?_
    rw [exec_store_cell (P := P) (o := ⟨none, .store t1 (.tmp p1) (.tmp x1), ty, pos, aft, none⟩) rfl (e := a.eval) (w := w1) hp hx (blk_later hg h1') hi ho]
    refine ⟨fun he => kept_setCell (hE he), ?_⟩
    exact h _ (grown_later h1' (grown_setCell w1 g off _)) ((blk_later hg h1').set_ off _)
  · cases hs
end
end Go.Proofs.YtepgpihobmjbdaaGreat
namespace Go.Proofs.YtepgpihobmjbdaaGreat
open Go Go.RowKit

/-- A slice value owns its cells; its block lies in `F`. -/
def OwnF (w : World) (F : Nat → Prop) (base : Nat) (e : TypeId) (size : Nat) (v : Value) (n : Nat) (xs : List Value) : Prop := w.ownsRow base e size v n xs ∧ ∀ g, v.ownBlock = some g → F g
theorem own_mono {w : World} {base base' : Nat} {e : TypeId} {size : Nat} {v : Value} {n : Nat} {xs : List Value} (h : w.ownsRow base e size v n xs) (hb : base' ≤ base) : w.ownsRow base' e size v n xs := by
  refine ⟨h.1, ?_⟩
  rcases h.2 with hn | ⟨g, cap, cur, e1, h2, rest⟩
  · exact .inl hn
  · exact .inr ⟨g, cap, cur, e1, Nat.le_trans hb h2, rest⟩
theorem OwnF.stab {w w' : World} {F : Nat → Prop} {base : Nat} {e : TypeId} {size n : Nat} {v : Value} {xs : List Value} (h : OwnF w F base e size v n xs) (hk : ∀ k, F k → w'.heap[k]? = w.heap[k]?) : OwnF w' F base e size v n xs := by
  refine ⟨⟨h.1.1, ?_⟩, h.2⟩
  rcases h.1.2 with hn | ⟨g, cap, cur, rfl, hb, hg, rest⟩
  · exact .inl hn
  · exact .inr ⟨g, cap, cur, rfl, hb, (hk g (h.2 g rfl)).trans hg, rest⟩
theorem OwnF.of {w w1 : World} {base : Nat} {e : TypeId} {size n : Nat} {v : Value} {xs : List Value} (h : w.ownsRow base e size v n xs) (hb : w1.heap.size ≤ base) : OwnF w (fun k => w1.heap.size ≤ k ∧ k < w.heap.size) w1.heap.size e size v n xs :=
  ⟨own_mono h hb, fun g hg => by have := h.lt g hg; omega⟩
theorem OwnF.base {w : World} {F : Nat → Prop} {b b' : Nat} {e : TypeId} {size n : Nat} {v : Value} {xs : List Value} (h : OwnF w F b e size v n xs) (hb : b' ≤ b) : OwnF w F b' e size v n xs := ⟨own_mono h.1 hb, h.2⟩
/-- A pointer to a block that is known whole and lies in `F`. -/
def PtrF (w : World) (F : Nat → Prop) (base : Nat) (A : Option Addr) (t : TypeId) (cs : Array Value) : Prop := ∃ g, A = some ⟨g, 0, none⟩ ∧ base ≤ g ∧ F g ∧ Blk w g t cs
theorem PtrF.stab {w w' : World} {F : Nat → Prop} {base : Nat} {A : Option Addr} {t : TypeId} {cs : Array Value} (h : PtrF w F base A t cs) (hk : ∀ k, F k → w'.heap[k]? = w.heap[k]?) : PtrF w' F base A t cs := by
  obtain ⟨g, h1, h2, h3, h4⟩ := h
  exact ⟨g, h1, h2, h3, (hk g h3).trans h4⟩

theorem hrun_call {P : Program} {o : Oper} {a : Act} {w : World} {K : Value → World → Prop} {g : FuncId} {args : Array Value} (hrun : (execOp a.eval o).run P w = .ok (.enter g args) w) (h : Calls P g args w fun e w'' => ∃ v, e = .returned v ∧ K v w'') : HRun P o a w K := by
  unfold HRun; rw [hrun]; exact h
theorem hrun_value {P : Program} {o : Oper} {a : Act} {w w' : World} {K : Value → World → Prop} {v : Value} (hrun : (execOp a.eval o).run P w = .ok (.value v) w') (h : K v w') : HRun P o a w K := by
  unfold HRun; rw [hrun]; exact h
theorem hrun_skip {P : Program} {o : Oper} {a : Act} {w w' : World} {K : Value → World → Prop} (hrun : (execOp a.eval o).run P w = .ok .skip w') (h : K undef w') : HRun P o a w K := by
  unfold HRun; rw [hrun]; exact h

section
variable {P : Program} {lops : List Oper} {an : List (List Nat)} {m1 m2 : List Bool} {st : List St} {w0 : World} {a0 : Act} {af : (Nat → Par) → Act} {shape : Nat → Par → Value} {wr : Nat → Nat → Prop} {R : Nat → (Nat → Par) → (Nat → Prop) → World → Prop} {s : St} {o : Oper}

/-- A call that leaves what was there alone. -/
theorem obl_call (ho : lops[s.i]? = some o) (hw : ∀ x, Region.wanted o (yielded lops.toArray (af x).tmps) = true) (g : FuncId) (args : (Nat → Par) → Array Value) (hrun : ∀ (x : Nat → Par) (w : World), (execOp (af x).eval o).run P w = .ok (.enter g (args x)) w)
    (hc : ∀ (x : Nat → Par) (w : World) (F : Nat → Nat → Prop), Kept (fun k => k < w0.heap.size ∧ Eb an st wr s.i k) w0 w → (∀ j ∈ s.need, R j x (F j) w) → Calls P g (args x) w fun e w' => ∃ y, e = .returned (shape s.i y) ∧ Below w.heap.size w w' ∧ R s.i (upd x s.i y) (fun k => w.heap.size ≤ k ∧ k < w'.heap.size) w') : Obl P lops an st wr w0 af shape R s := by
  intro x w F hk hn
  refine ⟨o, ho, hw x, hrun_call (hrun x w) ((hc x w F hk fun j hj => (hn j hj).2).mono ?_)⟩
  rintro e w' ⟨y, rfl, hb, hR⟩
  exact ⟨_, rfl, y, _, rfl, ⟨hb.os, hb.tape, hb.output, hb.size, fun k hk => hb.block k hk.1⟩, fun k hk => ⟨hk.2, .inl hk.1⟩, hR⟩

/-- One new block. -/
theorem obl_new (ho : lops[s.i]? = some o) (hw : ∀ x, Region.wanted o (yielded lops.toArray (af x).tmps) = true) (t : TypeId) (cells : (Nat → Par) → Array Value) (y : Nat → Par)
    (hrun : ∀ (x : Nat → Par) (w : World), (execOp (af x).eval o).run P w = .ok (.value (shape s.i (y w.heap.size))) (w.alloc (.cells (cells x) t)))
    (hR : ∀ (x : Nat → Par) (w : World), w0.heap.size ≤ w.heap.size → R s.i (upd x s.i (y w.heap.size)) (fun k => k = w.heap.size) (w.alloc (.cells (cells x) t))) : Obl P lops an st wr w0 af shape R s := by
  intro x w F hk _
  refine ⟨o, ho, hw x, hrun_value (hrun x w) ⟨y w.heap.size, _, rfl, ⟨rfl, rfl, rfl, by simp, fun k hk => heap_alloc_old w _ hk.1⟩, fun k hk => ?_, hR x w hk.size⟩⟩
  subst hk
  exact ⟨by simp, .inl (Nat.le_refl _)⟩

def gP (g : Nat) : Par := fun _ => (some ⟨g, 0, none⟩, 0)
theorem obl_alloc (t : TypeId) (p : Tmp) (z : Value) (ha : isAlloc lops[s.i]? t p = true) (hz : (P.info? t).map (·.zero) = some (some z)) (hsh : ∀ y, shape s.i y = .pointer (y 0).1)
    (hR : ∀ (x : Nat → Par) (F : Nat → Prop) (w : World), PtrF w F w0.heap.size (x s.i 0).1 t z.cells → R s.i x F w) : Obl P lops an st wr w0 af shape R s := by
  cases ho : lops[s.i]? with
  | none => rw [ho] at ha; simp [isAlloc] at ha
  | some o =>
    rw [ho] at ha
    obtain ⟨dst, op, ty, pos, aft, gd⟩ := o
    cases dst with
    | none => simp [isAlloc] at ha
    | some d => cases gd with
      | some x => cases op <;> simp [isAlloc] at ha
      | none => cases op with
        | alloc t' =>
          simp [isAlloc] at ha
          obtain ⟨rfl, rfl⟩ := ha
          refine obl_new ho (fun x => by simp [Region.wanted]) t' (fun _ => z.cells) gP (fun x w => ?_) fun x w hle => hR _ _ _ ?_
          · rw [exec_alloc (P := P) (o := ⟨some d, .alloc t', ty, pos, aft, none⟩) rfl hz _ w, hsh]; rfl
          · rw [upd_same]
            exact ⟨w.heap.size, rfl, hle, rfl, Blk.new _ _ _⟩
        | _ => simp [isAlloc] at ha

/-- The new variable is filled. -/
theorem obl_store (t : TypeId) (p q : Tmp) (j : Nat) (zs : Array Value) (cells : (Nat → Par) → Array Value) (hs : isStore lops[s.i]? t p q = true) (htg : s.tgt = some j) (hnd : j ∈ s.need)
    (hj : ∀ (x : Nat → Par) (F : Nat → Prop) (w : World), R j x F w → PtrF w F w0.heap.size (x j 0).1 t zs) (hp : ∀ x, (af x).tmps.getD p undef = .pointer (x j 0).1) (hq : ∀ x, (af x).tmps.getD q undef = .agg (cells x)) (hi : ∀ x, (P.info? t).map (·.size) = some (cells x).size) (hzs : ∀ x, zs.size = (cells x).size)
    (h1 : ∀ x, (cells x).all (·.oneCell') = true) (hsh : ∀ y, shape s.i y = undef) (hne : j ≠ s.i)
    (hR : ∀ (x : Nat → Par) (F : Nat → Prop) (w : World) (y : Par), PtrF w F w0.heap.size (x j 0).1 t (cells x) → R s.i (upd x s.i y) F w) : Obl P lops an st wr w0 af shape R s := by
  intro x w F hk hn
  cases ho' : lops[s.i]? with
  | none => rw [ho'] at hs; simp [isStore] at hs
  | some o =>
    rw [ho'] at hs
    unfold isStore at hs
    split at hs
    · rename_i t1 p1 x1 ty pos aft heq
      simp only [Bool.and_eq_true, beq_iff_eq] at hs
      obtain ⟨⟨rfl, rfl⟩, rfl⟩ := hs
      have e := Option.some.inj heq
      subst e
      obtain ⟨g, hA, hge, hF, hb⟩ := hj x _ _ (hn j hnd).2
      refine ⟨_, rfl, by simp [Region.wanted], hrun_skip (exec_store (P := P) (o := ⟨none, .store t1 (.tmp p1) (.tmp x1), ty, pos, aft, none⟩) rfl (e := (af x).eval) (w := w) (by show (af x).tmps.getD p1 undef = _; rw [hp x, hA]) (hq x) hb (hi x) (hzs x) (h1 x)) ?_⟩
      refine ⟨fun _ => (none, 0), fun k => k = g, (hsh _).symm, ⟨rfl, rfl, rfl, by simp [World.setRow], fun k hk => ?_⟩, fun k hk => ?_, hR x _ _ _ ⟨g, hA, hge, rfl, blk_setRow hb⟩⟩
      · simp only [World.setRow, Array.getElem?_modify]
        rw [if_neg fun e => hk.2 (.inr (by unfold tgtF; rw [htg]; rw [← e]; exact hF))]
      · subst hk
        exact ⟨by have := hb.lt; simpa [World.setRow] using this, .inr (.inr (by unfold tgtF; rw [htg]; exact hF))⟩
    · cases hs

/-- A variable that was there is filled. -/
theorem obl_fill (t t' : TypeId) (p q : Tmp) (b : Nat) (old : Array Value) (cells : (Nat → Par) → Array Value) (hs : isStore lops[s.i]? t p q = true) (hp : ∀ x, (af x).tmps.getD p undef = .pointer (some ⟨b, 0, none⟩)) (hq : ∀ x, (af x).tmps.getD q undef = .agg (cells x))
    (hb0 : Blk w0 b t' old) (hE : Eb an st wr s.i b) (hwr : wr s.i b) (hi : ∀ x, (P.info? t).map (·.size) = some (cells x).size) (hzs : ∀ x, old.size = (cells x).size) (h1 : ∀ x, (cells x).all (·.oneCell') = true) (hsh : ∀ y, shape s.i y = undef)
    (hR : ∀ (x : Nat → Par) (F : Nat → Prop) (w : World) (y : Par), F b → Blk w b t' (cells x) → R s.i (upd x s.i y) F w) : Obl P lops an st wr w0 af shape R s := by
  intro x w F hk hn
  cases ho' : lops[s.i]? with
  | none => rw [ho'] at hs; simp [isStore] at hs
  | some o =>
    rw [ho'] at hs
    unfold isStore at hs
    split at hs
    · rename_i t1 p1 x1 ty pos aft heq
      simp only [Bool.and_eq_true, beq_iff_eq] at hs
      obtain ⟨⟨rfl, rfl⟩, rfl⟩ := hs
      have e := Option.some.inj heq
      subst e
      have hb : Blk w b t' old := (hk.block b ⟨hb0.lt, hE⟩).trans hb0
      refine ⟨_, rfl, by simp [Region.wanted], hrun_skip (exec_store (P := P) (o := ⟨none, .store t1 (.tmp p1) (.tmp x1), ty, pos, aft, none⟩) rfl (e := (af x).eval) (w := w) (hp x) (hq x) hb (hi x) (hzs x) (h1 x)) ?_⟩
      refine ⟨fun _ => (none, 0), fun k => k = b, (hsh _).symm, ⟨rfl, rfl, rfl, by simp [World.setRow], fun k hk => ?_⟩, fun k hk => ?_, hR x _ _ _ rfl (blk_setRow hb)⟩
      · simp only [World.setRow, Array.getElem?_modify]
        rw [if_neg fun e => hk.2 (.inl (by rw [← e]; exact hwr))]
      · subst hk
        exact ⟨by have := hb.lt; simpa [World.setRow] using this, .inr (.inl hwr)⟩
    · cases hs

theorem take_none : ∀ (n : Nat) (l : List Oper), takeOps (List.replicate n false) l = []
  | 0, l => by cases l <;> rfl
  | n + 1, [] => rfl
  | n + 1, _ :: l => take_none n l

/-- No memory that was there is turned. -/
theorem wp_region_L {id : Nat} {Q : Exit → Act → World → Prop} (an : List (List Nat)) (m1 : List Bool) (st : List St) (shape : Nat → Par → Value) (R : Nat → (Nat → Par) → (Nat → Prop) → World → Prop) (bf : Act → (Nat → Par) → Act)
    (hm : P.follows .mixedOrders = true) (hb : regB .any lops an m1 (List.replicate lops.length false) st = true) (hbf : ∀ x, putH shape x lops st a0 = bf a0 x) (ds : List Tmp) (hds : slotsB m1 (List.replicate lops.length false) lops ds = true)
    (hq : ∀ (x : Nat → Par) (D : World → Prop), Good (fun k => k < w0.heap.size) w0 D → wpQuiet P lops.toArray (fun w' => ∃ y : Of D, w' = y.val) (fun a' => a' = af x) (takeOps m1 lops) (bf a0 x))
    (hcall : ∀ d ∈ ds, ∀ (x x' : Nat → Par), (af x).tmps.getD d undef = (af x').tmps.getD d undef)
    (hob : obls P lops an st (fun _ _ => False) w0 af shape R st) (how : owes R st)
    (hfin : ∀ (x : Nat → Par) (w : World) (F : Nat → Nat → Prop), Later w0 w → lives st R x F w st → Q .normal (af x) w) : (Code.region id lops.toArray true).wp P Q a0 w0 := by
  refine wp_region_X (b := af) (af := af) an m1 (List.replicate lops.length false) st shape (fun _ _ => False) R (fun k => k < w0.heap.size) (fun k => k < w0.heap.size) hm hb (fun k hk => ⟨hk, fun i _ s _ h => h.elim⟩) (fun k hk => ⟨hk, fun i _ s _ h => h.elim⟩)
    (fun s _ k h => h.elim) (fun s _ s' _ _ k h => h.elim) (fun x D hD => by rw [hbf]; exact hq x D hD) (fun x D hD => by rw [take_none]; exact wpQuiet_nil rfl) hds hcall hob how fun x w F hk hl => hfin x w F ⟨hk.os, hk.tape, hk.output, hk.size, fun k h => hk.block k ⟨h, fun _ _ h => h⟩⟩ hl

theorem obl_callL (ho : lops[s.i]? = some o) (hw : ∀ x, Region.wanted o (yielded lops.toArray (af x).tmps) = true) (g : FuncId) (args : (Nat → Par) → Array Value) (hrun : ∀ (x : Nat → Par) (w : World), (execOp (af x).eval o).run P w = .ok (.enter g (args x)) w)
    (hc : ∀ (x : Nat → Par) (w : World) (F : Nat → Nat → Prop), Later w0 w → (∀ j ∈ s.need, R j x (F j) w) → Calls P g (args x) w fun e w' => ∃ y, e = .returned (shape s.i y) ∧ Below w.heap.size w w' ∧ R s.i (upd x s.i y) (fun k => w.heap.size ≤ k ∧ k < w'.heap.size) w') : Obl P lops an st (fun _ _ => False) w0 af shape R s :=
  obl_call ho hw g args hrun fun x w F hk hn => hc x w F ⟨hk.os, hk.tape, hk.output, hk.size, fun k h => hk.block k ⟨h, fun _ _ h => h.elim⟩⟩ hn
theorem owe_ptr (j base : Nat) (t : TypeId) (cells : (Nat → Par) → Array Value) (hR : ∀ (x : Nat → Par) (F : Nat → Prop) (w : World), R s.i x F w = PtrF w F base (x j 0).1 t (cells x)) (hj : j = s.i ∨ j ∈ s.dep) (hc : ∀ (x x' : Nat → Par), (∀ j, j = s.i ∨ j ∈ s.dep → x j = x' j) → cells x = cells x') : Owes R s :=
  ⟨fun x F w w' h _ hk => by rw [hR] at *; exact h.stab hk, fun x x' F w hx h => by rw [hR] at *; rw [← hx j hj, ← hc x x' hx]; exact h⟩
theorem owe_fill (b : Nat) (t : TypeId) (cells : (Nat → Par) → Array Value) (hR : ∀ (x : Nat → Par) (F : Nat → Prop) (w : World), R s.i x F w = (F b ∧ Blk w b t (cells x))) (hc : ∀ (x x' : Nat → Par), (∀ j, j = s.i ∨ j ∈ s.dep → x j = x' j) → cells x = cells x') : Owes R s :=
  ⟨fun x F w w' h _ hk => by rw [hR] at *; exact ⟨h.1, (hk b h.1).trans h.2⟩, fun x x' F w hx h => by rw [hR] at *; rw [← hc x x' hx]; exact h⟩

/-! ### Variables that were there are filled -/
def earlyB (lops : List Oper) (an : List (List Nat)) (m1 : List Bool) (early : List Nat) : Bool :=
  early.all fun f => (List.range lops.length).all fun i => !m1.getD i false || (an.getD f []).contains i
theorem early_spec {early : List Nat} (hk : m1.length = lops.length) (h : earlyB lops an m1 early = true) {f i : Nat} (hf : f ∈ early) (hi : m1.getD i false = true) : i ∈ an.getD f [] := by
  have h1 := List.all_eq_true.1 (List.all_eq_true.1 h f hf) i (List.mem_range.2 (by
    rcases Nat.lt_or_ge i m1.length with h | h
    · omega
    · simp [List.getD, List.getElem?_eq_none h] at hi))
  rw [hi] at h1
  simpa using h1
def wrF (fills : List (Nat × Nat)) (i k : Nat) : Prop := (i, k) ∈ fills
def free (fills : List (Nat × Nat)) (k : Nat) : Prop := ∀ p ∈ fills, p.2 ≠ k

theorem wp_region_F {id : Nat} {Q : Exit → Act → World → Prop} {b : (Nat → Par) → Act} (an : List (List Nat)) (m1 m2 : List Bool) (st : List St) (fills : List (Nat × Nat)) (early : List Nat) (shape : Nat → Par → Value) (R : Nat → (Nat → Par) → (Nat → Prop) → World → Prop) (bf : Act → (Nat → Par) → Act)
    (hm : P.follows .mixedOrders = true) (hb : regB .any lops an m1 m2 st = true) (he : earlyB lops an m1 early = true) (hbf : ∀ x, putH shape x lops st a0 = bf a0 x) (ds : List Tmp) (hds : slotsB m1 m2 lops ds = true)
    (hl : ∀ p ∈ fills, p.2 < w0.heap.size) (hd : ∀ p ∈ fills, ∀ q ∈ fills, p.1 ≠ q.1 → p.2 ≠ q.2)
    (hq : ∀ (x : Nat → Par) (D : World → Prop), Good (fun k => k < w0.heap.size ∧ ∀ p ∈ fills, p.2 = k → p.1 ∈ early) w0 D → wpQuiet P lops.toArray (fun w' => ∃ y : Of D, w' = y.val) (fun a' => a' = b x) (takeOps m1 lops) (bf a0 x))
    (hq2 : ∀ (x : Nat → Par) (D : World → Prop), Good (fun k => k < w0.heap.size ∧ free fills k) w0 D → wpQuiet P lops.toArray (fun w' => ∃ y : Of D, w' = y.val) (fun a' => a' = af x) (takeOps m2 lops) (b x))
    (hcall : ∀ d ∈ ds, ∀ (x x' : Nat → Par), (af x).tmps.getD d undef = (af x').tmps.getD d undef)
    (hob : obls P lops an st (wrF fills) w0 af shape R st) (how : owes R st)
    (hfin : ∀ (x : Nat → Par) (w : World) (F : Nat → Nat → Prop), Kept (fun k => k < w0.heap.size ∧ free fills k) w0 w → lives st R x F w st → Q .normal (af x) w) : (Code.region id lops.toArray true).wp P Q a0 w0 := by
  have hk := chk_of hb
  refine wp_region_X (b := b) (af := af) an m1 m2 st shape (wrF fills) R (fun k => k < w0.heap.size ∧ ∀ p ∈ fills, p.2 = k → p.1 ∈ early) (fun k => k < w0.heap.size ∧ free fills k) hm hb ?_ (fun k hk => ⟨hk.1, fun i _ s _ h => absurd rfl (hk.2 _ h)⟩)
    (fun s _ k h => hl _ h) (fun s _ s' _ hne k h h' => hd _ h _ h' hne rfl) (fun x D hD => by rw [hbf]; exact hq x D hD) hq2 hds hcall hob how fun x w F hkk hl => hfin x w F (hkk.weak fun k hk => ⟨hk.1, fun s _ h => hk.2 _ h rfl⟩) hl
  intro k hk'
  exact ⟨hk'.1, fun i hi s _ hw => .inr (early_spec hk.len1 he (hk'.2 _ hw rfl) hi)⟩
theorem fills_ne1 {f g : Nat} : ∀ p ∈ [(f, g)], ∀ q ∈ [(f, g)], p.1 ≠ q.1 → p.2 ≠ q.2 := fun p hp q hq hne => by
  simp only [List.mem_singleton] at hp hq
  subst hp; subst hq; exact absurd rfl hne
theorem eb_fill1 {f g : Nat} : Eb an st (wrF [(f, g)]) f g := fun s _ h => by
  have : (s.i, g) = (f, g) := by simpa [wrF] using h
  exact .inl (congrArg Prod.fst this)
/-- Facts on memory in a class of worlds that keeps a set of blocks. -/
theorem liftS {D : World → Prop} {S : Nat → Prop} {w : World} (hD : Good S w D) {b o : Nat} {v : Value} (h : w.cell? ⟨b, o, none⟩ = some v) (hb : S b) (x : Of D) : x.val.cell? ⟨b, o, none⟩ = some v := lift hD h hb x
theorem fills_lt1 {f g B : Nat} (h : g < B) : ∀ p ∈ [(f, g)], p.2 < B := fun p hp => by
  simp only [List.mem_singleton] at hp
  subst hp; exact h
theorem early_all {fills : List (Nat × Nat)} {early : List Nat} {k B : Nat} (h : k < B) (he : (fills.all fun p => early.contains p.1) = true) : k < B ∧ ∀ p ∈ fills, p.2 = k → p.1 ∈ early :=
  ⟨h, fun p hp _ => by have := List.all_eq_true.1 he p hp; simpa using this⟩
theorem free1 {f g k : Nat} (h : g ≠ k) : free [(f, g)] k := fun p hp => by
  simp only [List.mem_singleton] at hp
  subst hp; exact h
theorem grown_kept {f g : Nat} {w w' : World} (h : Kept (fun k => k < w.heap.size ∧ free [(f, g)] k) w w') : w.grownBy w' (some g) :=
  ⟨h.os, h.tape, h.output, h.size, fun k hk hne => h.block k ⟨hk, free1 fun e => hne (by rw [e])⟩⟩
/-- One number is stored into a variable that was there. -/
theorem obl_set (t t' : TypeId) (p q : Tmp) (b off : Nat) (old : Array Value) (z : Int) (new : Array Value) (hs : isStore lops[s.i]? t p q = true) (hp : ∀ (x : Nat → Par), (af x).tmps.getD p undef = .pointer (some ⟨b, off, none⟩)) (hq : ∀ (x : Nat → Par), (af x).tmps.getD q undef = .int .i64 z)
    (hb0 : Blk w0 b t' old) (hE : Eb an st wr s.i b) (hwr : wr s.i b) (hi : (P.info? t).map (·.size) = some 1) (hoff : off < old.size) (hnew : old.setIfInBounds off (.int .i64 z) = new) (hsh : ∀ y, shape s.i y = undef)
    (hR : ∀ (x : Nat → Par) (F : Nat → Prop) (w : World) (y : Par), F b → Blk w b t' new → R s.i (upd x s.i y) F w) : Obl P lops an st wr w0 af shape R s := by
  intro x w F hk hn
  cases ho' : lops[s.i]? with
  | none => rw [ho'] at hs; simp [isStore] at hs
  | some o =>
    rw [ho'] at hs
    unfold isStore at hs
    split at hs
    · rename_i t1 p1 x1 ty pos aft heq
      simp only [Bool.and_eq_true, beq_iff_eq] at hs
      obtain ⟨⟨rfl, rfl⟩, rfl⟩ := hs
      have e := Option.some.inj heq
      subst e
      have hb : Blk w b t' old := (hk.block b ⟨hb0.lt, hE⟩).trans hb0
      refine ⟨_, rfl, by simp [Region.wanted], hrun_skip (exec_store_cell (P := P) (o := ⟨none, .store t1 (.tmp p1) (.tmp x1), ty, pos, aft, none⟩) rfl (e := (af x).eval) (w := w) (hp x) (hq x) hb hi hoff) ?_⟩
      have g := grown_setCell w b off (.int .i64 z)
      refine ⟨fun _ => (none, 0), fun k => k = b, (hsh _).symm, ⟨g.os, g.tape, g.output, g.size, fun k hk => g.block k hk.1 fun e => hk.2 (.inl (by have : k = b := Option.some.inj e; rw [this]; exact hwr))⟩, fun k hk => ?_, hR x _ _ _ rfl (by have := hb.set_ off (.int .i64 z); rw [hnew] at this; exact this)⟩
      subst hk
      exact ⟨Nat.lt_of_lt_of_le hb.lt g.size, .inr (.inl hwr)⟩
    · cases hs
end
end Go.Proofs.YtepgpihobmjbdaaGreat
namespace Go.Proofs.YtepgpihobmjbdaaGreat
open Go Go.RowKit

section
variable {P : Program} {lops : List Oper} {an : List (List Nat)} {m1 m2 : List Bool} {st : List St} {w0 : World} {a0 : Act} {af : (Nat → Par) → Act} {shape : Nat → Par → Value} {wr : Nat → Nat → Prop} {R : Nat → (Nat → Par) → (Nat → Prop) → World → Prop} {s : St} {o : Oper}

theorem own_shape2 {w : World} {base : Nat} {e : TypeId} {size n : Nat} {v : Value} {xs : List Value} (h : w.ownsRow base e size v n xs) : ∃ A c, v = .slice A n c := by
  rcases h.2 with ⟨hv, h0⟩ | ⟨g, cap, _, hv, _⟩
  · exact ⟨none, 0, by rw [hv, h0]⟩
  · exact ⟨_, _, hv⟩
/-- The slots that the hard operations leave, one by one. -/
theorem putH_step {x : Nat → Par} {s : St} {l : List St} {a b : Act} (d : Option Tmp) (v : Value) (hd : (lops[s.i]?).bind (·.dst) = d) (hv : shape s.i (x s.i) = v) (h : putH shape x lops l (a.put d v) = b) : putH shape x lops (s :: l) a = b := by
  rw [putH, hd, hv]; exact h
theorem putH_end {x : Nat → Par} {a : Act} : putH shape x lops [] a = a := rfl
def tmpAt (x : Option Operand) (p : Tmp) : Bool := match x with | some (.tmp q) => q == p | _ => false
def appendB (c : Callee) : Bool := match c with | .builtin .append => true | _ => false
def isAppend (o : Option Oper) (t : TypeId) (p q : Tmp) : Bool := match o with
  | some ⟨_, .call c, _, _, _, none⟩ => appendB c.callee && (c.args.size == 2 && tmpAt c.args[0]? p && tmpAt c.args[1]? q) && c.argTypes == #[t, t]
  | _ => false
theorem tmpAt_spec {x : Option Operand} {p : Tmp} (h : tmpAt x p = true) : x = some (.tmp p) := by
  unfold tmpAt at h
  split at h
  · rw [beq_iff_eq] at h; rw [h]
  · cases h
theorem isAppend_spec {o : Option Oper} {t : TypeId} {p q : Tmp} (h : isAppend o t p q = true) : ∃ d ty pos aft, o = some ⟨d, .call { callee := .builtin .append, args := #[.tmp p, .tmp q], argTypes := #[t, t] }, ty, pos, aft, none⟩ := by
  unfold isAppend at h
  split at h
  · rename_i d c ty pos aft
    simp only [Bool.and_eq_true, beq_iff_eq] at h
    obtain ⟨⟨h1, ⟨h2, h3⟩, h4⟩, h5⟩ := h
    obtain ⟨ce, av, ts⟩ := c
    simp only at h1 h2 h3 h4 h5
    have e1 : ce = .builtin .append := by
      unfold appendB at h1
      split at h1
      · rfl
      · cases h1
    have e2 : av = #[.tmp p, .tmp q] := by
      have a0 := tmpAt_spec h3
      have a1 := tmpAt_spec h4
      obtain ⟨l⟩ := av
      match l, h2, a0, a1 with
      | [x, y], _, a0, a1 =>
        simp at a0 a1
        rw [a0, a1]
    exact ⟨d, ty, pos, aft, by rw [e1, e2, h5]⟩
  · cases h
/-- An append: the row lies in memory that this operation may turn, the source is read. -/
theorem obl_append (t : TypeId) (sp pp : Tmp) (ha : isAppend lops[s.i]? t sp pp = true)
    (base : Nat) (e : TypeId) (i0 : TypeInfo) (z : Value) (size bytes : Nat) (ht : P.underlying t = some (.slice e)) (hi : P.info? e = some i0) (hz : i0.zero = some z) (hsize : i0.size = size) (hby : i0.bytes = bytes) (hzs : z.cells.size = size) (hsz : 0 < size)
    (n m : Nat) (xs news : List Value) (hl : news.length = m * size) (h1 : ∀ u ∈ news, u.oneCell' = true) (h63 : n + m ≤ maxLen) (hbytes : (n + m) * bytes ≤ 140737488355328) (hbase : base ≤ w0.heap.size)
    (hv : ∀ (x : Nat → Par) (w : World) (F : Nat → Nat → Prop), Kept (fun k => k < w0.heap.size ∧ Eb an st wr s.i k) w0 w → (∀ j ∈ s.need, R j x (F j) w) →
      ∃ v ad c, (af x).tmps.getD sp undef = v ∧ w.ownsRow base e size v n xs ∧ (∀ g, v.ownBlock = some g → wr s.i g ∨ tgtF s F g) ∧ (af x).tmps.getD pp undef = .slice (some ad) m c ∧ (∀ j u, news[j]? = some u → w.cell? (ad.add j) = some u))
    (hsh : ∀ y, shape s.i y = .slice (y 0).1 (n + m) (y 0).2)
    (hR : ∀ (x : Nat → Par) (F : Nat → Prop) (w : World) (y : Par), OwnF w F base e size (.slice (y 0).1 (n + m) (y 0).2) (n + m) (xs ++ news) → R s.i (upd x s.i y) F w) : Obl P lops an st wr w0 af shape R s := by
  intro x w F hk hn
  cases ho' : lops[s.i]? with
  | none => rw [ho'] at ha; simp [isAppend] at ha
  | some o =>
    rw [ho'] at ha
    obtain ⟨d, ty, pos, aft, heq⟩ := isAppend_spec ha
    have e1 := Option.some.inj heq
    subst e1
    obtain ⟨v, ad, c, hs, hown, hgv, hx, hnews⟩ := hv x w F hk fun j hj => (hn j hj).2
    obtain ⟨v', w', hr, hown', hgrow, _, hat⟩ := run_append_own_at (P := P) w base t ty e i0 z size bytes ht hi hz hsize hby hzs hsz v n xs hown ad m c news hl hnews h1 h63 hbytes (Nat.le_trans hbase hk.size)
    obtain ⟨A, cc, rfl⟩ := own_shape2 hown'
    refine ⟨_, rfl, by simp [Region.wanted], hrun_value (v := .slice A (n + m) cc) (w' := w') ?_ ⟨fun _ => (A, cc), fun k => (Value.slice A (n + m) cc).ownBlock = some k, (hsh fun _ => (A, cc)).symm, ⟨hgrow.os, hgrow.tape, hgrow.output, hgrow.size, fun k hk => hgrow.block k hk.1 fun e2 => hk.2 ?_⟩, fun k hk => ⟨(hown'.lt k hk).2, ?_⟩, hR x _ _ _ ⟨hown', fun g hg => hg⟩⟩⟩
    · simp only [execOp, resolve, invoke, builtin, Sem.run_bind, Sem.run_pure, Result.andThen_ok, List.map_toArray, List.map_cons, List.map_nil, Act.eval, hs, hx, hr]
    · exact hgv k e2.symm
    · rcases hat with h | h
      · exact .inr (hgv k (h.symm.trans hk))
      · left
        rw [h] at hk
        exact Nat.le_of_eq (Option.some.inj hk)

theorem own_new {w0 w : World} {elem size n : Nat} {cells : Array Value} (hle : w0.heap.size ≤ w.heap.size) (hsz : cells.size = n * size) (hn : n ≤ maxLen) : OwnF (w.alloc (.cells cells elem)) (fun k => k = w.heap.size) w0.heap.size elem size (.slice (some ⟨w.heap.size, 0, none⟩) n n) n cells.toList :=
  ⟨⟨by simpa using hsz, .inr ⟨w.heap.size, n, cells, rfl, hle, heap_alloc_new w _, Nat.le_refl _, hn, hsz, List.take_of_length_le (by rw [Array.length_toList, hsz]; exact Nat.le_refl _)⟩⟩, fun g hg => (Option.some.inj hg).symm⟩
/-- What is appended was laid into a block of its own. -/
theorem news_own {w : World} {F : Nat → Prop} {base : Nat} {e : TypeId} {size n : Nat} {A : Option Addr} {c : Nat} {xs : List Value} (h : OwnF w F base e size (.slice A n c) n xs) (hA : 0 < n) : ∃ ad, A = some ad ∧ ∀ j u, xs[j]? = some u → w.cell? (ad.add j) = some u := by
  rcases h.1.2 with ⟨hv, _⟩ | ⟨g, cap, cur, hv, _⟩
  · injection hv with h1 h2 h3; omega
  · injection hv with h1 h2 h3
    subst h1
    exact ⟨_, rfl, h.1.cells rfl⟩

/-! ### One row that was there is appended to -/
def wrP (ki : Nat) (v : Value) (i k : Nat) : Prop := i = ki ∧ v.ownBlock = some k
theorem wp_region_P {id : Nat} {Q : Exit → Act → World → Prop} (ki : Nat) (v0 : Value) (an : List (List Nat)) (m1 : List Bool) (st : List St) (shape : Nat → Par → Value) (R : Nat → (Nat → Par) → (Nat → Prop) → World → Prop) (bf : Act → (Nat → Par) → Act)
    (hm : P.follows .mixedOrders = true) (hb : regB .any lops an m1 (List.replicate lops.length false) st = true) (hbf : ∀ x, putH shape x lops st a0 = bf a0 x) (ds : List Tmp) (hds : slotsB m1 (List.replicate lops.length false) lops ds = true) (hlt : ∀ g, v0.ownBlock = some g → g < w0.heap.size)
    (hq : ∀ (x : Nat → Par) (D : World → Prop), Good (fun k => k < w0.heap.size ∧ v0.ownBlock ≠ some k) w0 D → wpQuiet P lops.toArray (fun w' => ∃ y : Of D, w' = y.val) (fun a' => a' = af x) (takeOps m1 lops) (bf a0 x))
    (hcall : ∀ d ∈ ds, ∀ (x x' : Nat → Par), (af x).tmps.getD d undef = (af x').tmps.getD d undef)
    (hob : obls P lops an st (wrP ki v0) w0 af shape R st) (how : owes R st)
    (hfin : ∀ (x : Nat → Par) (w : World) (F : Nat → Nat → Prop), w0.grownBy w v0.ownBlock → lives st R x F w st → Q .normal (af x) w) : (Code.region id lops.toArray true).wp P Q a0 w0 := by
  refine wp_region_X (b := af) (af := af) an m1 (List.replicate lops.length false) st shape (wrP ki v0) R (fun k => k < w0.heap.size ∧ v0.ownBlock ≠ some k) (fun k => k < w0.heap.size ∧ v0.ownBlock ≠ some k) hm hb (fun k hk => ⟨hk.1, fun i _ s _ h => absurd h.2 hk.2⟩) (fun k hk => ⟨hk.1, fun i _ s _ h => absurd h.2 hk.2⟩)
    (fun s _ k h => hlt k h.2) (fun s _ s' _ hne k h h' => hne (h.1.trans h'.1.symm)) (fun x D hD => by rw [hbf]; exact hq x D hD) (fun x D hD => by rw [take_none]; exact wpQuiet_nil rfl) hds hcall hob how fun x w F hk hl => hfin x w F ⟨hk.os, hk.tape, hk.output, hk.size, fun k h hne => hk.block k ⟨h, fun _ _ h => hne h.2.symm⟩⟩ hl
theorem obl_callP {ki : Nat} {v0 : Value} (ho : lops[s.i]? = some o) (hw : ∀ x, Region.wanted o (yielded lops.toArray (af x).tmps) = true) (g : FuncId) (args : (Nat → Par) → Array Value) (hrun : ∀ (x : Nat → Par) (w : World), (execOp (af x).eval o).run P w = .ok (.enter g (args x)) w)
    (hc : ∀ (x : Nat → Par) (w : World) (F : Nat → Nat → Prop), w0.grownBy w v0.ownBlock → (∀ j ∈ s.need, R j x (F j) w) → Calls P g (args x) w fun e w' => ∃ y, e = .returned (shape s.i y) ∧ Below w.heap.size w w' ∧ R s.i (upd x s.i y) (fun k => w.heap.size ≤ k ∧ k < w'.heap.size) w') : Obl P lops an st (wrP ki v0) w0 af shape R s :=
  obl_call ho hw g args hrun fun x w F hk hn => hc x w F ⟨hk.os, hk.tape, hk.output, hk.size, fun k h hne => hk.block k ⟨h, fun _ _ h => absurd h.2.symm hne⟩⟩ hn
/-- The row that was there, when its append comes up. -/
theorem row_then {ki : Nat} {v0 : Value} {base : Nat} {e : TypeId} {size n : Nat} {xs : List Value} {w : World} (h : w0.ownsRow base e size v0 n xs) (hs : s.i = ki) (hk : Kept (fun k => k < w0.heap.size ∧ Eb an st (wrP ki v0) s.i k) w0 w) : w.ownsRow base e size v0 n xs := by
  refine ⟨h.1, ?_⟩
  rcases h.2 with h0 | ⟨g, cap, cur, hv, hb, hg, r⟩
  · exact .inl h0
  · refine .inr ⟨g, cap, cur, hv, hb, ?_, r⟩
    have hlt : g < w0.heap.size := (Array.getElem?_eq_some_iff.1 hg).1
    rw [hk.block g ⟨hlt, fun s' _ h' => .inl (h'.1.trans hs.symm)⟩]; exact hg
theorem own_low_ne {w : World} {base : Nat} {e : TypeId} {size n k : Nat} {v : Value} {xs : List Value} (h : w.ownsRow base e size v n xs) (hk : k < base) : v.ownBlock ≠ some k := fun e1 => by
  have := (h.lt k e1).1; omega
theorem liftP {D : World → Prop} {S : Nat → Prop} {w : World} (hD : Good S w D) {b o : Nat} {v : Value} (h : w.cell? ⟨b, o, none⟩ = some v) (hb : S b) (x : Of D) : x.val.cell? ⟨b, o, none⟩ = some v := lift hD h hb x
theorem owe_own (i : Nat) (base : Nat) (e : TypeId) (size n : Nat) (xs : List Value) (hs : s.i = i) (hR : ∀ (x : Nat → Par) (F : Nat → Prop) (w : World), R s.i x F w = OwnF w F base e size (.slice (x i 0).1 n (x i 0).2) n xs) : Owes R s :=
  ⟨fun x F w w' h _ hk => by rw [hR] at *; exact h.stab hk, fun x x' F w hx h => by
    rw [hR] at *
    subst hs
    rw [← hx s.i (.inl rfl)]; exact h⟩
end
end Go.Proofs.YtepgpihobmjbdaaGreat
