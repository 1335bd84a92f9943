/-
  Regions that draw their order: the law as it is used. The quiet operations are met in one or two walks in the text's order, the hard ones one by one.
-/
import Derived.Test.YtiggefmckomilaaRegAll
namespace Go.Proofs.Ytiggefmckomilaa
open Go Go.RowKit

def plainB (o : Oper) : Bool := match o.op with
  | .move _ | .assign _ | .build _ _ | .buildSlice _ _ _ | .load _ _ | .store _ _ _ | .binOp _ _ _ _ _ | .unOp _ _ _ | .convert _ _ _ | .slice _ _ _ _ _ | .fieldAddr _ _ _ | .field _ _ _ | .indexAddr _ _ _ | .index _ _ _ | .extract _ _ | .alloc _ | .box _ _ | .pick _ _ _ => true
  | .call { callee := .builtin .len, .. } | .call { callee := .builtin .cap, .. } | .call { callee := .builtin .min, .. } | .call { callee := .builtin .max, .. } => true
  | _ => false
theorem run_pick_ne {s : Sem Bool} {P : Program} {w w' : World} {f : FuncId} {args : Array Value} {u v : Value} : ((do pure (Next.value (if ← s then u else v))) : Sem Next).run P w ≠ .ok (.enter f args) w' := by
  rw [Sem.run_bind]
  cases s.run P w with
  | ok b w1 => simp [Result.andThen]
  | halt x w1 => simp [Result.andThen]
theorem plain_ne {o : Oper} (h : plainB o = true) {P : Program} (e : Operand → Value) (w : World) (f : FuncId) (args : Array Value) (w' : World) : (execOp e o).run P w ≠ .ok (.enter f args) w' := by
  obtain ⟨dst, op, ty, pos, aft, gd⟩ := o
  cases op
  case call c =>
    obtain ⟨callee, cargs, cty⟩ := c
    cases callee with
    | builtin b =>
      cases b <;> simp only [plainB, Bool.false_eq_true] at h
      all_goals
        simp only [execOp, resolve, Sem.run_bind, Sem.run_pure, Result.andThen_ok, invoke, builtin]
        generalize Sem.run P _ w = r
        cases r <;> simp [Result.andThen]
    | _ => simp [plainB] at h
  all_goals (simp only [plainB, Bool.false_eq_true] at h <;> first
    | (simp only [execOp]; exact run_value_ne)
    | (simp only [execOp]; exact run_skip_ne)
    | (simp only [execOp]; exact run_pick_ne)
    | (simp [execOp, Sem.run_pure]))

/-- The slots of the quiet calls. -/
def slotsB (m1 m2 : List Bool) (lops : List Oper) (ds : List Tmp) : Bool := (takeOps m1 lops ++ takeOps m2 lops).all fun o => plainB o || match o.dst with | some d => ds.contains d | none => true
def putH (shape : Nat → Par → Value) (x : Nat → Par) (lops : List Oper) : List St → Act → Act
  | [], a => a
  | s :: t, a => putH shape x lops t (a.put ((lops[s.i]?).bind (·.dst)) (shape s.i (x s.i)))

section
variable {P : Program} {lops : List Oper} {an : List (List Nat)} {m1 m2 : List Bool} {st : List St} {w0 : World} {a0 : Act} {shape : Nat → Par → Value} {wr : Nat → Nat → Prop} {R : Nat → (Nat → Par) → (Nat → Prop) → World → Prop}

theorem putH_size (x : Nat → Par) : ∀ (l : List St) (a : Act), (putH shape x lops l a).tmps.size = a.tmps.size
  | [], _ => rfl
  | s :: t, a => (putH_size x t _).trans (put_size _ _ _)
theorem putH_defers (x : Nat → Par) : ∀ (l : List St) (a : Act), (putH shape x lops l a).defers = a.defers
  | [], _ => rfl
  | s :: t, a => (putH_defers x t _).trans (put_defers _ _ _)
theorem putH_out (x : Nat → Par) {d : Tmp} : ∀ (l : List St) (a : Act), (∀ s ∈ l, (lops[s.i]?).bind (·.dst) ≠ some d) → (putH shape x lops l a).tmps[d]? = a.tmps[d]?
  | [], _, _ => rfl
  | s :: t, a, h => (putH_out x t _ (fun s' hs' => h s' (List.mem_cons_of_mem _ hs'))).trans (put_far (h s List.mem_cons_self))
theorem putH_in (hd : dstB lops = true) (x : Nat → Par) {d : Tmp} : ∀ (l : List St) (a : Act), ∀ s ∈ l, (lops[s.i]?).bind (·.dst) = some d → d < a.tmps.size → (putH shape x lops l a).tmps[d]? = some (shape s.i (x s.i))
  | [], _, s, hs, _, _ => by cases hs
  | s' :: t, a, s, hs, he, hlt => by
    by_cases h : ∃ s2 ∈ t, (lops[s2.i]?).bind (·.dst) = some d
    · obtain ⟨s2, hs2, he2⟩ := h
      have e : s.i = s2.i := by
        obtain ⟨o, ho, hdo⟩ := Option.bind_eq_some_iff.1 he
        obtain ⟨o2, ho2, hdo2⟩ := Option.bind_eq_some_iff.1 he2
        exact dst_one lops hd _ _ _ _ d ho ho2 hdo hdo2
      rw [e]
      exact putH_in hd x t _ s2 hs2 he2 (by rw [put_size]; exact hlt)
    · have hs' : s = s' := (List.mem_cons.1 hs).resolve_right fun h' => h ⟨s, h', he⟩
      subst hs'
      show (putH shape x lops t (a.put ((lops[s.i]?).bind (·.dst)) (shape s.i (x s.i)))).tmps[d]? = _
      rw [putH_out x t _ fun s2 hs2 h2 => h ⟨s2, hs2, h2⟩, he, put_at, if_pos rfl, if_pos hlt]

theorem mem_take {o : Oper} : ∀ (m : List Bool) (l : List Oper), o ∈ takeOps m l → ∃ j, m.getD j false = true ∧ l[j]? = some o
  | [], l, h => by cases l <;> simp [takeOps] at h
  | true :: m, [], h => by simp [takeOps] at h
  | false :: m, [], h => by simp [takeOps] at h
  | true :: m, o' :: l, h => by
    simp only [takeOps] at h
    rcases List.mem_cons.1 h with rfl | h
    · exact ⟨0, rfl, rfl⟩
    · obtain ⟨j, h1, h2⟩ := mem_take m l h
      exact ⟨j + 1, by simpa using h1, by simpa using h2⟩
  | false :: m, o' :: l, h => by
    simp only [takeOps] at h
    obtain ⟨j, h1, h2⟩ := mem_take m l h
    exact ⟨j + 1, by simpa using h1, by simpa using h2⟩

/-- One walk: what it has left alone, and what each of its operations yields at its end. -/
theorem walk_spec {ops : Array Oper} {C : World → Prop} {af : Act} : ∀ (m : List Bool) (l : List Oper) (a : Act), (∀ o ∈ l, ∀ cs b, o.op ≠ .select cs b) → dstB l = true → (∀ (i : Nat) (oi : Oper) (j : Nat) (oj : Oper) (d : Tmp), l[i]? = some oi → l[j]? = some oj → oj.dst = some d → d ∈ oi.looksAt ops → j < i) →
    wpQuiet P ops C (fun a' => a' = af) (takeOps m l) a →
    (af.tmps.size = a.tmps.size ∧ af.defers = a.defers ∧ (∀ d, (∀ o ∈ takeOps m l, o.dst ≠ some d) → af.tmps[d]? = a.tmps[d]?)) ∧
      ∀ j oj, m.getD j false = true → l[j]? = some oj → ∃ v, Holds af oj v ∧ YieldsIn P ops C oj v af
  | [], l, a, _, _, _, h => by
    have e : takeOps [] l = [] := by cases l <;> rfl
    rw [e] at h ⊢
    have : a = af := h
    subst this
    exact ⟨⟨rfl, rfl, fun _ _ => rfl⟩, fun j oj hj => by simp at hj⟩
  | true :: m, [], a, _, _, _, h => by
    have : a = af := h
    subst this
    exact ⟨⟨rfl, rfl, fun _ _ => rfl⟩, fun j oj _ hj => by simp at hj⟩
  | false :: m, [], a, _, _, _, h => by
    have : a = af := h
    subst this
    exact ⟨⟨rfl, rfl, fun _ _ => rfl⟩, fun j oj _ hj => by simp at hj⟩
  | false :: m, o :: l, a, hs, hd, hr, h => by
    simp only [dstB, Bool.and_eq_true] at hd
    obtain ⟨h1, h2⟩ := walk_spec m l a (fun o ho => hs o (List.mem_cons_of_mem _ ho)) hd.2 (fun i oi j oj d hi hj => fun h3 h4 => by have := hr (i + 1) oi (j + 1) oj d (by simpa using hi) (by simpa using hj) h3 h4; omega) h
    refine ⟨h1, fun j oj hm hj => ?_⟩
    cases j with
    | zero => simp at hm
    | succ j => exact h2 j oj (by simpa using hm) (by simpa using hj)
  | true :: m, o :: l, a, hs, hd, hr, h => by
    have hd' := hd
    simp only [dstB, Bool.and_eq_true] at hd
    have hex : ∃ v, YieldsIn P ops C o v a ∧ wpQuiet P ops C (fun a' => a' = af) (takeOps m l) (a.put o.dst v) := by
      simp only [takeOps] at h
      unfold wpQuiet at h
      split at h
      · rename_i hw
        obtain ⟨v, h1, h2⟩ := h
        exact ⟨v, .inl ⟨hw, h1⟩, h2⟩
      · rename_i hw
        exact ⟨undef, .inr ⟨by simpa using hw, rfl⟩, h⟩
    obtain ⟨v, hy, hn⟩ := hex
    obtain ⟨⟨s1, s2, s3⟩, h2⟩ := walk_spec m l _ (fun o ho => hs o (List.mem_cons_of_mem _ ho)) hd.2 (fun i oi j oj d hi hj => fun h3 h4 => by have := hr (i + 1) oi (j + 1) oj d (by simpa using hi) (by simpa using hj) h3 h4; omega) hn
    have far : ∀ d, o.dst = some d → ∀ o' ∈ takeOps m l, o'.dst ≠ some d := fun d hod o' ho' he => by
      obtain ⟨j, _, hj⟩ := mem_take m l ho'
      have := dst_one (o :: l) hd' 0 (j + 1) o o' d rfl (by simpa using hj) hod he
      omega
    refine ⟨⟨s1.trans (put_size _ _ _), s2.trans (put_defers _ _ _), fun d hdd => ?_⟩, fun j oj hm hj => ?_⟩
    · simp only [takeOps] at hdd
      rw [s3 d fun o' ho' => hdd o' (List.mem_cons_of_mem _ ho'), put_far (hdd o List.mem_cons_self)]
    · cases j with
      | succ j => exact h2 j oj (by simpa using hm) (by simpa using hj)
      | zero =>
        have e : oj = o := by simpa using hj.symm
        subst e
        refine ⟨v, fun d hod hlt => ?_, ?_⟩
        · rw [s3 d (far d hod), hod, put_at, if_pos rfl, if_pos (by rw [put_size] at s1; rw [← s1]; exact hlt)]
        · have agree : ∀ t ∈ oj.looksAt ops, af.tmps[t]? = a.tmps[t]? := fun t ht => by
            have h0 : oj.dst ≠ some t := fun he => by have := hr 0 oj 0 oj t rfl rfl he ht; omega
            rw [s3 t fun o' ho' he => by
              obtain ⟨j, _, hj⟩ := mem_take m l ho'
              have := hr 0 oj (j + 1) o' t rfl (by simpa using hj) he ht
              omega, put_far h0]
          exact hy.of_same (exec_agree (ops := ops) (hs oj List.mem_cons_self) agree) (wanted_agree agree)

theorem read_lt (hk : Chk lops an m1 m2 st) : ∀ (i : Nat) (oi : Oper) (j : Nat) (oj : Oper) (d : Tmp), lops[i]? = some oi → lops[j]? = some oj → oj.dst = some d → d ∈ oi.looksAt lops.toArray → j < i :=
  fun i oi j oj d hi hj hd hm => hk.back i oi hi j (hk.reads i oi j oj d hi hj hd hm).1

theorem of_walks {b af : (Nat → Par) → Act} (hk : Chk lops an m1 m2 st) {S1 S2 : Nat → Prop}
    (hS1 : ∀ k, S1 k → k < w0.heap.size ∧ ∀ i, m1.getD i false = true → Eb an st wr i k) (hS2 : ∀ k, S2 k → k < w0.heap.size ∧ ∀ i, m2.getD i false = true → Eb an st wr i k)
    (hq1 : ∀ x D, Good S1 w0 D → wpQuiet P lops.toArray (fun w' => ∃ y : Of D, w' = y.val) (fun a' => a' = b x) (takeOps m1 lops) (putH shape x lops st a0))
    (hq2 : ∀ x D, Good S2 w0 D → wpQuiet P lops.toArray (fun w' => ∃ y : Of D, w' = y.val) (fun a' => a' = af x) (takeOps m2 lops) (b x))
    {ds : List Tmp} (hds : slotsB m1 m2 lops ds = true) (hcall : ∀ d ∈ ds, ∀ x x', (af x).tmps.getD d undef = (af x').tmps.getD d undef) : AfOk P lops an st wr w0 a0 af shape := by
  have hns : ∀ o ∈ lops, ∀ cs b, o.op ≠ .select cs b := fun o ho cs b => by
    obtain ⟨j, hj⟩ := List.mem_iff_getElem?.1 ho
    exact hk.nosel j o cs b hj
  have W1 := fun x D (hD : Good S1 w0 D) => walk_spec m1 lops _ hns hk.dst (read_lt hk) (hq1 x D hD)
  have W2 := fun x D (hD : Good S2 w0 D) => walk_spec m2 lops _ hns hk.dst (read_lt hk) (hq2 x D hD)
  have d1 : Good S1 w0 (Kept (fun k => k < w0.heap.size) w0) := ⟨fun w h => h.weak fun k hk' => (hS1 k hk').1, fun _ _ h h' => kept_later (fun k hk' => hk') h h', w0, Kept.refl _ _⟩
  have d2 : Good S2 w0 (Kept (fun k => k < w0.heap.size) w0) := ⟨fun w h => h.weak fun k hk' => (hS2 k hk').1, fun _ _ h h' => kept_later (fun k hk' => hk') h h', w0, Kept.refl _ _⟩
  have A1 := fun x => (W1 x _ d1).1
  have A2 := fun x => (W2 x _ d2).1
  have not1 : ∀ s ∈ st, ∀ (o : Oper) (d : Tmp), lops[s.i]? = some o → o.dst = some d → ∀ o' ∈ takeOps m1 lops, o'.dst ≠ some d := fun s hs o d ho hd o' ho' he => by
    obtain ⟨j, hm, hj⟩ := mem_take m1 lops ho'
    have := dst_one lops hk.dst _ _ _ _ d ho hj hd he
    exact (hk.kind1 j (List.getElem?_eq_some_iff.1 hj).1 hm).2 s hs this
  have not2 : ∀ s ∈ st, ∀ (o : Oper) (d : Tmp), lops[s.i]? = some o → o.dst = some d → ∀ o' ∈ takeOps m2 lops, o'.dst ≠ some d := fun s hs o d ho hd o' ho' he => by
    obtain ⟨j, hm, hj⟩ := mem_take m2 lops ho'
    have := dst_one lops hk.dst _ _ _ _ d ho hj hd he
    exact (hk.kind2 j (List.getElem?_eq_some_iff.1 hj).1 hm).2 s hs this
  have take_mem : ∀ (m : List Bool) (o : Oper), o ∈ takeOps m lops → o ∈ lops := fun m o h => by
    obtain ⟨j, _, hj⟩ := mem_take m lops h
    exact List.mem_of_getElem? hj
  refine ⟨fun x => (A2 x).1.trans ((A1 x).1.trans (putH_size x _ _)), fun x => (A2 x).2.1.trans ((A1 x).2.1.trans (putH_defers x _ _)), fun x d hd => ?_, fun x s hs o ho d hd hlt => ?_, fun x i o ho hq D hD => ?_, fun x x' i o ho hq => ?_⟩
  · rw [(A2 x).2.2 d fun o ho => hd o (take_mem _ _ ho), (A1 x).2.2 d fun o ho => hd o (take_mem _ _ ho), putH_out x st a0 fun s _ he => ?_]
    obtain ⟨o, ho, hdo⟩ := Option.bind_eq_some_iff.1 he
    exact hd o (List.mem_of_getElem? ho) hdo
  · have h1 : d < a0.tmps.size := by rw [(A2 x).1, (A1 x).1, putH_size] at hlt; exact hlt
    rw [(A2 x).2.2 d (not2 s hs o d ho hd), (A1 x).2.2 d (not1 s hs o d ho hd)]
    exact putH_in hk.dst x st a0 s hs (by rw [ho]; exact hd) h1
  · have hin : i < lops.length := (List.getElem?_eq_some_iff.1 ho).1
    rcases hk.kind3 i hin hq with hm | hm
    · have hD1 : Good S1 w0 D := ⟨fun w hw => (hD.low w hw).weak fun k hk' => ⟨(hS1 k hk').1, (hS1 k hk').2 i hm⟩, hD.up, hD.ne⟩
      obtain ⟨v, hv, hy⟩ := (W1 x D hD1).2 i o hm ho
      have no2 : ∀ t ∈ o.looksAt lops.toArray, ∀ o' ∈ takeOps m2 lops, o'.dst ≠ some t := fun t ht o' ho' he => by
        obtain ⟨j, hm2, hj⟩ := mem_take m2 lops ho'
        exact (hk.reads i o j o' t ho hj he ht).2 ⟨hm, hm2⟩
      have agree : ∀ t ∈ o.looksAt lops.toArray, (af x).tmps[t]? = (b x).tmps[t]? := fun t ht => (A2 x).2.2 t (no2 t ht)
      refine ⟨v, fun d hd hlt => ?_, ?_⟩
      · rw [(A2 x).2.2 d fun o' ho' he => ?_]
        · exact hv d hd (by rw [← (A2 x).1]; exact hlt)
        · obtain ⟨j, hm2, hj⟩ := mem_take m2 lops ho'
          have := dst_one lops hk.dst _ _ _ _ d ho hj hd he
          subst this
          rw [(hk.kind1 i hin hm).1] at hm2
          cases hm2
      · have e : (fun w' => ∃ y : Of D, w' = y.val) = D := cls_eq D
        rw [e] at hy
        exact hy.of_same (exec_agree (ops := lops.toArray) (hk.nosel i o · · ho) agree) (wanted_agree agree)
    · have hD2 : Good S2 w0 D := ⟨fun w hw => (hD.low w hw).weak fun k hk' => ⟨(hS2 k hk').1, (hS2 k hk').2 i hm⟩, hD.up, hD.ne⟩
      obtain ⟨v, hv, hy⟩ := (W2 x D hD2).2 i o hm ho
      have e : (fun w' => ∃ y : Of D, w' = y.val) = D := cls_eq D
      rw [e] at hy
      exact ⟨v, hv, hy⟩
  · by_cases hp : plainB o = true
    · exact .inl fun a w f args w' => plain_ne hp a.eval w f args w'
    · right
      have hin : i < lops.length := (List.getElem?_eq_some_iff.1 ho).1
      have hmem : o ∈ takeOps m1 lops ++ takeOps m2 lops := by
        have take_in : ∀ (m : List Bool) (l : List Oper) (j : Nat), m.getD j false = true → l[j]? = some o → o ∈ takeOps m l := fun m => by
          induction m with
          | nil => intro l j h; simp at h
          | cons b m ihm =>
            intro l j h hl
            cases l with
            | nil => simp at hl
            | cons o' l =>
              cases j with
              | zero =>
                have e1 : b = true := by simpa using h
                have e2 : o' = o := by simpa using hl
                subst e1; subst e2
                exact List.mem_cons_self
              | succ j =>
                have := ihm l j (by simpa using h) (by simpa using hl)
                cases b
                · exact this
                · exact List.mem_cons_of_mem _ this
        rcases hk.kind3 i hin hq with hm | hm
        · exact List.mem_append_left _ (take_in m1 lops i hm ho)
        · exact List.mem_append_right _ (take_in m2 lops i hm ho)
      have h1 := List.all_eq_true.1 hds o hmem
      simp only [Bool.or_eq_true, hp, Bool.false_eq_true, false_or] at h1
      unfold slotOf
      cases hod : o.dst with
      | none => rfl
      | some d =>
        rw [hod] at h1
        exact hcall d (by simpa using h1) x x'

def obls (P : Program) (lops : List Oper) (an : List (List Nat)) (all : List St) (wr : Nat → Nat → Prop) (w0 : World) (af : (Nat → Par) → Act) (shape : Nat → Par → Value) (R : Nat → (Nat → Par) → (Nat → Prop) → World → Prop) : List St → Prop
  | [] => True
  | s :: t => Obl P lops an all wr w0 af shape R s ∧ obls P lops an all wr w0 af shape R t
/-- What a fact owes: it stands as long as its memory does; it depends on few choices. -/
def Owes (R : Nat → (Nat → Par) → (Nat → Prop) → World → Prop) (s : St) : Prop :=
  (∀ x F w w', R s.i x F w → w.heap.size ≤ w'.heap.size → (∀ k, F k → w'.heap[k]? = w.heap[k]?) → R s.i x F w') ∧ (∀ x x' F w, (∀ j, j = s.i ∨ j ∈ s.dep → x j = x' j) → R s.i x F w → R s.i x' F w)
def owes (R : Nat → (Nat → Par) → (Nat → Prop) → World → Prop) : List St → Prop
  | [] => True
  | s :: t => Owes R s ∧ owes R t
def lives (all : List St) (R : Nat → (Nat → Par) → (Nat → Prop) → World → Prop) (x : Nat → Par) (F : Nat → Nat → Prop) (w : World) : List St → Prop
  | [] => True
  | s :: t => (all.all (fun s' => match s'.tgt with | some j => j != s.i | none => true) = true → R s.i x (F s.i) w) ∧ lives all R x F w t

theorem wp_region_XA {id : Nat} {Q : Exit → Act → World → Prop} {b af : (Nat → Par) → Act} (an : List (List Nat)) (m1 m2 : List Bool) (st : List St) (shape : Nat → Par → Value) (wr : Nat → Nat → Prop) (R : Nat → (Nat → Par) → (Nat → Prop) → World → Prop) (S1 S2 : Nat → Prop)
    (hm : P.follows .mixedOrders = true) (hb : regB .any lops an m1 m2 st = true)
    (hS1 : ∀ k, S1 k → k < w0.heap.size ∧ ∀ i, m1.getD i false = true → Eb an st wr i k) (hS2 : ∀ k, S2 k → k < w0.heap.size ∧ ∀ i, m2.getD i false = true → Eb an st wr i k)
    (hwl : ∀ s ∈ st, ∀ k, wr s.i k → k < w0.heap.size) (hwr : ∀ s ∈ st, ∀ s' ∈ st, s.i ≠ s'.i → ∀ k, wr s.i k → ¬ wr s'.i k)
    (hq1 : ∀ x D, Good S1 w0 D → wpQuiet P lops.toArray (fun w' => ∃ y : Of D, w' = y.val) (fun a' => a' = b x) (takeOps m1 lops) (putH shape x lops st a0))
    (hq2 : ∀ x D, Good S2 w0 D → wpQuiet P lops.toArray (fun w' => ∃ y : Of D, w' = y.val) (fun a' => a' = af x) (takeOps m2 lops) (b x))
    {ds : List Tmp} (hds : slotsB m1 m2 lops ds = true) (hcall : ∀ d ∈ ds, ∀ x x', (af x).tmps.getD d undef = (af x').tmps.getD d undef)
    (hob : obls P lops an st wr w0 af shape R st) (how : owes R st)
    (hfin : ∀ x w F, Kept (fun k => k < w0.heap.size ∧ ∀ s ∈ st, ¬ wr s.i k) w0 w → lives st R x F w st → Aparts st F → Q .normal (af x) w) :
    (Code.region id lops.toArray true).wp P Q a0 w0 := by
  have hk := chk_of hb
  have hok := of_walks hk hS1 hS2 hq1 hq2 hds hcall
  have ob : ∀ (l : List St), obls P lops an st wr w0 af shape R l → ∀ s ∈ l, Obl P lops an st wr w0 af shape R s := fun l => by
    induction l with
    | nil => intro _ s hs; cases hs
    | cons a l ih =>
      intro h s hs
      rcases List.mem_cons.1 hs with rfl | hs
      · exact h.1
      · exact ih h.2 s hs
  have ow : ∀ (l : List St), owes R l → ∀ s ∈ l, Owes R s := fun l => by
    induction l with
    | nil => intro _ s hs; cases hs
    | cons a l ih =>
      intro h s hs
      rcases List.mem_cons.1 hs with rfl | hs
      · exact h.1
      · exact ih h.2 s hs
  have lv : ∀ x w F (l : List St), (∀ s ∈ l, (∀ s' ∈ st, s'.tgt ≠ some s.i) → R s.i x (F s.i) w) → lives st R x F w l := fun x w F l => by
    induction l with
    | nil => intro _; trivial
    | cons a l ih =>
      intro h
      refine ⟨fun hl => h a List.mem_cons_self fun s' hs' ht => ?_, ih fun s hs => h s (List.mem_cons_of_mem _ hs)⟩
      have := List.all_eq_true.1 hl s' hs'
      rw [ht] at this
      simp at this
  refine wp_region_any hm (anyX hk hok (ob st hob) (fun s hs => (ow st how s hs).1) (fun s hs => (ow st how s hs).2) hwl hwr (fun x w F hkept hR hap => hfin x w F hkept (lv x w F st hR) hap) _ _ _ _ (fun _ _ => (none, 0)) (fun _ _ => False) ?_ ?_)
  · have := List.length_filter_le (fun i => !(Array.replicate lops.toArray.size false).getD i true) (List.range lops.length)
    simpa [unl] using this
  · have none : ∀ i, (Array.replicate lops.toArray.size false).getD i false = false := fun i => by
      simp [Array.getD]
    refine ⟨⟨by simp, fun j oj _ h => absurd ((none j).symm.trans h) (by simp)⟩, ⟨rfl, rfl, rfl, Nat.le_refl _, fun _ _ => rfl⟩, fun x _ => ⟨rfl, rfl, fun d => ⟨fun ⟨i, o, _, h, _⟩ => absurd ((none i).symm.trans h) (by simp), fun _ => rfl⟩⟩, fun s _ h => absurd ((none s.i).symm.trans h) (by simp), fun s _ _ _ h => absurd ((none s.i).symm.trans h) (by simp), fun s _ h => absurd ((none s.i).symm.trans h) (by simp)⟩
theorem wp_region_X {id : Nat} {Q : Exit → Act → World → Prop} {b af : (Nat → Par) → Act} (an : List (List Nat)) (m1 m2 : List Bool) (st : List St) (shape : Nat → Par → Value) (wr : Nat → Nat → Prop) (R : Nat → (Nat → Par) → (Nat → Prop) → World → Prop) (S1 S2 : Nat → Prop)
    (hm : P.follows .mixedOrders = true) (hb : regB .any lops an m1 m2 st = true)
    (hS1 : ∀ k, S1 k → k < w0.heap.size ∧ ∀ i, m1.getD i false = true → Eb an st wr i k) (hS2 : ∀ k, S2 k → k < w0.heap.size ∧ ∀ i, m2.getD i false = true → Eb an st wr i k)
    (hwl : ∀ s ∈ st, ∀ k, wr s.i k → k < w0.heap.size) (hwr : ∀ s ∈ st, ∀ s' ∈ st, s.i ≠ s'.i → ∀ k, wr s.i k → ¬ wr s'.i k)
    (hq1 : ∀ x D, Good S1 w0 D → wpQuiet P lops.toArray (fun w' => ∃ y : Of D, w' = y.val) (fun a' => a' = b x) (takeOps m1 lops) (putH shape x lops st a0))
    (hq2 : ∀ x D, Good S2 w0 D → wpQuiet P lops.toArray (fun w' => ∃ y : Of D, w' = y.val) (fun a' => a' = af x) (takeOps m2 lops) (b x))
    {ds : List Tmp} (hds : slotsB m1 m2 lops ds = true) (hcall : ∀ d ∈ ds, ∀ x x', (af x).tmps.getD d undef = (af x').tmps.getD d undef)
    (hob : obls P lops an st wr w0 af shape R st) (how : owes R st)
    (hfin : ∀ x w F, Kept (fun k => k < w0.heap.size ∧ ∀ s ∈ st, ¬ wr s.i k) w0 w → lives st R x F w st → Q .normal (af x) w) :
    (Code.region id lops.toArray true).wp P Q a0 w0 :=
  wp_region_XA an m1 m2 st shape wr R S1 S2 hm hb hS1 hS2 hwl hwr hq1 hq2 hds hcall hob how fun x w F hk hl _ => hfin x w F hk hl
end
end Go.Proofs.Ytiggefmckomilaa
