/-
  The kind of an event; events as they lie in memory.
  The events while they are laid: what lies in memory.
-/
import Derived.Test.YtidbjidcjmbnlaaTmFind
import Derived.Test.YtidbjidcjmbnlaaTmSort
import Derived.Test.YtidbjidcjmbnlaaTmCount
set_option linter.unusedSimpArgs false
set_option linter.unusedVariables false
section
namespace Go.Proofs.Ytidbjidcjmbnlaa
open Go Go.RowKit
attribute [local go_sem] Oper.semAt_some

theorem kidx0 (w : World) : (Instr.index 161 (.agg #[.int .i64 0, .int .i64 2, .int .i64 2, .int .i64 3, .int .i64 4, .int .i64 5, .int .i64 3, .int .i64 6, .int .i64 7]) (.int .i64 0)).run Try.prog w = .ok (.agg #[.int .i64 0, .int .i64 2, .int .i64 2]) w := by kernel_rfl
theorem kidx1 (w : World) : (Instr.index 161 (.agg #[.int .i64 0, .int .i64 2, .int .i64 2, .int .i64 3, .int .i64 4, .int .i64 5, .int .i64 3, .int .i64 6, .int .i64 7]) (.int .i64 1)).run Try.prog w = .ok (.agg #[.int .i64 3, .int .i64 4, .int .i64 5]) w := by kernel_rfl
theorem kidx2 (w : World) : (Instr.index 161 (.agg #[.int .i64 0, .int .i64 2, .int .i64 2, .int .i64 3, .int .i64 4, .int .i64 5, .int .i64 3, .int .i64 6, .int .i64 7]) (.int .i64 2)).run Try.prog w = .ok (.agg #[.int .i64 3, .int .i64 6, .int .i64 7]) w := by kernel_rfl
theorem kin0 (x y z : Int) (w : World) : (Instr.index 160 (.agg #[.int .i64 x, .int .i64 y, .int .i64 z]) (.int .i64 0)).run Try.prog w = .ok (.int .i64 x) w := by kernel_rfl
theorem kin1 (x y z : Int) (w : World) : (Instr.index 160 (.agg #[.int .i64 x, .int .i64 y, .int .i64 z]) (.int .i64 1)).run Try.prog w = .ok (.int .i64 y) w := by kernel_rfl
theorem kin2 (x y z : Int) (w : World) : (Instr.index 160 (.agg #[.int .i64 x, .int .i64 y, .int .i64 z]) (.int .i64 2)).run Try.prog w = .ok (.int .i64 z) w := by kernel_rfl
attribute [local go_sem] kidx0 kidx1 kidx2 kin0 kin1 kin2
set_option maxHeartbeats 1000000 in
set_option maxRecDepth 100000 in
theorem kind_any (a b : Nat) (w : World) : Calls Try.prog 60 #[.int .i64 (a : Nat), .int .i64 (b : Nat)] w fun e w' => e = .returned (.int .i64 (kindZ a b)) ∧ Below w.heap.size w w' := by
  obtain ⟨p, hp, h1⟩ : ∃ p : Nat, p = min a 2 ∧ p ≤ 2 := ⟨min a 2, rfl, by omega⟩
  obtain ⟨q, hq, h2⟩ : ∃ p : Nat, p = min b 2 ∧ p ≤ 2 := ⟨min b 2, rfl, by omega⟩
  have hk : kindZ a b = kindZ p q := by
    unfold kindZ
    subst hp hq
    repeat' split
    all_goals first | rfl | omega
  rw [hk]
  have e1 : (if (2 : Int) < (a : Int) then 2 else (a : Int)) = (p : Int) := by split <;> omega
  have e2 : (if (2 : Int) < (b : Int) then 2 else (b : Int)) = (q : Int) := by split <;> omega
  have e3 : min (a : Int) 2 = (p : Int) := by omega
  have e4 : min (b : Int) 2 = (q : Int) := by omega
  clear hk hp hq
  go_enter Try.func60, Try.ntmps60
  obtain rfl | rfl | rfl : p = 0 ∨ p = 1 ∨ p = 2 := by omega
  all_goals obtain rfl | rfl | rfl : q = 0 ∨ q = 1 ∨ q = 2 := by omega
  all_goals
    go_wp2
    first
      | exact ⟨rfl, Below.refl _ _⟩
      | (go_ret; exact ⟨rfl, Below.refl _ _⟩)
/-- An event in memory. -/
structure Evm where
  k : Int
  fv : Value
  tv : Value
  e : EvT
def Evm.cells (x : Evm) : List Value := [.int .i64 x.k, x.fv, x.tv]
def evCells (E : List Evm) : List Value := E.flatMap Evm.cells
def thF (b : Nat) (x : Evm) : Th := .row b 3 1 x.fv x.e.2.1.length (numsV x.e.2.1)
def thT (b : Nat) (x : Evm) : Th := .row b 3 1 x.tv x.e.2.2.length (numsV x.e.2.2)
theorem evCells_cons (x : Evm) (E : List Evm) : evCells (x :: E) = .int .i64 x.k :: x.fv :: x.tv :: evCells E := rfl
theorem evCells_len : ∀ E : List Evm, (evCells E).length = E.length * 3
  | [] => rfl
  | x :: E => by rw [evCells_cons]; simp only [List.length_cons, evCells_len E]; omega
theorem evCells_get : ∀ {E : List Evm} {k : Nat} {x : Evm}, E[k]? = some x → (evCells E)[k * 3]? = some (.int .i64 x.k) ∧ (evCells E)[k * 3 + 1]? = some x.fv ∧ (evCells E)[k * 3 + 2]? = some x.tv
  | [], _, _, h => by simp at h
  | y :: E, 0, x, h => by
    simp at h
    subst h
    exact ⟨rfl, rfl, rfl⟩
  | y :: E, k + 1, x, h => by
    rw [List.getElem?_cons_succ] at h
    rw [evCells_cons, show (k + 1) * 3 = k * 3 + 1 + 1 + 1 by omega]
    exact evCells_get h
theorem evCells_setK : ∀ {E : List Evm} {k : Nat} {x : Evm} (z : Int), E[k]? = some x → (evCells E).set (k * 3) (.int .i64 z) = evCells (E.set k { x with k := z })
  | [], _, _, _, h => by simp at h
  | y :: E, 0, x, z, h => by
    simp at h
    subst h
    rfl
  | y :: E, k + 1, x, z, h => by
    rw [List.getElem?_cons_succ] at h
    rw [evCells_cons, show (k + 1) * 3 = k * 3 + 1 + 1 + 1 by omega, List.set_cons_succ, List.set_cons_succ, List.set_cons_succ, evCells_setK z h]
    rfl
theorem evCells_setF : ∀ {E : List Evm} {k : Nat} {x : Evm} (v : Value) (e : EvT), E[k]? = some x → (evCells E).set (k * 3 + 1) v = evCells (E.set k { x with fv := v, e := e })
  | [], _, _, _, _, h => by simp at h
  | y :: E, 0, x, v, e, h => by
    simp at h
    subst h
    rfl
  | y :: E, k + 1, x, v, e, h => by
    rw [List.getElem?_cons_succ] at h
    rw [evCells_cons, show (k + 1) * 3 + 1 = k * 3 + 1 + 1 + 1 + 1 by omega, List.set_cons_succ, List.set_cons_succ, List.set_cons_succ, evCells_setF v e h]
    rfl
theorem evCells_setT : ∀ {E : List Evm} {k : Nat} {x : Evm} (v : Value) (e : EvT), E[k]? = some x → (evCells E).set (k * 3 + 2) v = evCells (E.set k { x with tv := v, e := e })
  | [], _, _, _, _, h => by simp at h
  | y :: E, 0, x, v, e, h => by
    simp at h
    subst h
    rfl
  | y :: E, k + 1, x, v, e, h => by
    rw [List.getElem?_cons_succ] at h
    rw [evCells_cons, show (k + 1) * 3 + 2 = k * 3 + 2 + 1 + 1 + 1 by omega, List.set_cons_succ, List.set_cons_succ, List.set_cons_succ, evCells_setT v e h]
    rfl
theorem evCells_app (E : List Evm) (x : Evm) : evCells (E ++ [x]) = evCells E ++ x.cells := by
  unfold evCells
  rw [List.flatMap_append]
  simp
def keysE (E : List Evm) : List Nd := E.map fun x => x.e.1
def newE (v : Nd) : Evm := ⟨0, .slice none 0 0, .slice none 0 0, (v, [], [])⟩
theorem perm_two {α : Type} {P F T ts : List α} {f t : α} : (f :: t :: (P ++ (F ++ (T ++ ts)))).Perm (P ++ ((F ++ [f]) ++ ((T ++ [t]) ++ ts))) := by
  have h1 : ((T ++ [t]) ++ ts).Perm (t :: (T ++ ts)) := by rw [List.append_assoc]; exact List.perm_middle
  have h2 : ((F ++ [f]) ++ ((T ++ [t]) ++ ts)).Perm (f :: t :: (F ++ (T ++ ts))) := by
    rw [List.append_assoc]
    exact List.perm_middle.trans (.cons _ ((h1.append_left F).trans List.perm_middle))
  exact ((h2.append_left P).trans (List.perm_middle.trans (.cons _ List.perm_middle))).symm
/-- The event of an area is there: its number, and what lies in memory. -/
def FoundE (lx : Nd) (b c p1 p2 b2 p3 base : Nat) (m : Nd → Option Nd) (E : List Evm) (w0 : World) (ts : List Th) (e : Ending) (w' : World) : Prop :=
  ∃ g k c2' cap E' x, e = .returned (.pointer (some ⟨g, k * 3, none⟩)) ∧ (E' = E ∨ (E' = E ++ [newE lx] ∧ lx ∉ keysE E)) ∧ E'[k]? = some x ∧ x.e.1 = lx ∧ c2' ≤ E'.length ∧
    Mem w0 (thE b c p1 p2 b2 c2' p3 base m (.slice (some ⟨g, 0, none⟩) E'.length cap) (keysE E') (evCells E') (E'.map (thF base) ++ (E'.map (thT base) ++ ts))) w'
theorem FindPost.found {lx : Nd} {b c p1 p2 b2 p3 base : Nat} {m : Nd → Option Nd} {E : List Evm} {w0 w' : World} {ts : List Th} {e : Ending} (hb : base ≤ w0.heap.size) (h : FindPost lx b c p1 p2 b2 p3 base m (keysE E) (evCells E) w0 (E.map (thF base) ++ (E.map (thT base) ++ ts)) e w') :
    FoundE lx b c p1 p2 b2 p3 base m E w0 ts e w' := by
  obtain ⟨g, k, c2', cap, ky', xs', rfl, hk, hc, hc2, hM⟩ := h
  have hl : (keysE E).length = E.length := by unfold keysE; rw [List.length_map]
  rcases hc with ⟨rfl, rfl, hky⟩ | ⟨rfl, rfl, rfl, hno⟩
  · unfold keysE at hky
    obtain ⟨x, hx, hxe⟩ := List.getElem?_map ▸ hky |> Option.map_eq_some_iff.1
    rw [hl] at hM hc2
    exact ⟨g, k, c2', cap, E, x, rfl, .inl rfl, hx, hxe, hc2, hM⟩
  · have hl2 : (keysE E ++ [lx]).length = (E ++ [newE lx]).length := by simp [keysE]
    have hk2 : keysE (E ++ [newE lx]) = keysE E ++ [lx] := by unfold keysE; rw [List.map_append]; rfl
    have hx2 : evCells (E ++ [newE lx]) = evCells E ++ zeroEv := evCells_app _ _
    rw [hl2] at hM hc2
    refine ⟨g, E.length, c2', cap, E ++ [newE lx], newE lx, by rw [hl], .inr ⟨rfl, hno⟩, by simp, rfl, hc2, ?_⟩
    rw [hk2, hx2, List.map_append, List.map_append]
    unfold thE at hM ⊢
    have h2 := ((hM.nilRow base 3 1).nilRow base 3 1)
    refine h2.perm ?_
    exact perm_two (P := [_, _, _, _, _, _])
end Go.Proofs.Ytidbjidcjmbnlaa
end
section
namespace Go.Proofs.Ytidbjidcjmbnlaa
open Go Go.RowKit

theorem perm6 {α : Type} (a b c d e f : α) (X : List α) : (a :: b :: c :: d :: e :: f :: X).Perm (f :: e :: c :: d :: b :: a :: X) :=
  (((((List.Perm.swap d c [e, f]).cons b).cons a).trans (List.reverse_perm [a, b, d, c, e, f]).symm).append_right X)
theorem modify_set {α : Type} {l : List α} {k : Nat} {x : α} {f : α → α} (h : l[k]? = some x) : l.modify k f = l.set k (f x) := by
  apply List.ext_getElem?
  intro j
  rw [List.getElem?_modify]
  by_cases e : k = j
  · subst e
    rw [List.getElem?_set_self (List.getElem?_eq_some_iff.1 h).1, h]
    simp
  · rw [List.getElem?_set_ne e]
    simp [e]
theorem set_id {α : Type} {l : List α} {k : Nat} {x : α} (h : l[k]? = some x) : l.set k x = l := by
  apply List.ext_getElem?
  intro j
  by_cases e : k = j
  · subst e
    rw [List.getElem?_set_self (List.getElem?_eq_some_iff.1 h).1, h]
  · rw [List.getElem?_set_ne e]
theorem mapS_set {α β : Type} {f : α → β} {l : List α} {k : Nat} {x y : α} (h : l[k]? = some x) (e : f y = f x) : (l.set k y).map f = l.map f := by
  rw [List.map_set, e]
  exact set_id (by rw [List.getElem?_map, h]; rfl)
/-- The events while they are laid. -/
def EvS (L : Nd → Nd) (b c p1 p2 b2 p3 base : Nat) (m : Nd → Option Nd) (w : World) (R : List Th) (i j : Nat) (wr : World) : Prop :=
  ∃ E c2 v, EvI L i j (E.map Evm.e) ∧ (∀ x ∈ E, x.k = 0) ∧ E.length ≤ i + j ∧ c2 ≤ E.length ∧ Mem w (thE b c p1 p2 b2 c2 p3 base m v (keysE E) (evCells E) (E.map (thF base) ++ (E.map (thT base) ++ R))) wr
/-- The same, with the row of the areas of one event in front. -/
def thO (b c p1 p2 b2 c2 p3 base : Nat) (m : Nd → Option Nd) (v : Value) (ky : List Nd) (n : Nat) (xs : List Value) (t : Th) (ts : List Th) : List Th :=
  t :: .blk p1 139 #[.map (some b)] :: thK Try.prog 142 ndL okNd b (fV m) c :: .blk p2 143 #[.map (some b2)] :: thK Try.prog 142 ndL okNd b2 (atV ky) c2 :: .blk p3 49 #[v] :: .row base 106 3 v n xs :: ts
theorem foundF {L : Nd → Nd} {b c p1 p2 b2 p3 base : Nat} {m : Nd → Option Nd} {E : List Evm} {w w2 : World} {R : List Th} {e : Ending} (i : Nat) (h : FoundE (L (false, i)) b c p1 p2 b2 p3 base m E w R e w2) (hI : EvI L i 0 (E.map Evm.e)) (hk : ∀ x ∈ E, x.k = 0) (hl : E.length ≤ i + 0) :
    ∃ g k c2 cap E' x, e = .returned (.pointer (some ⟨g, k * 3, none⟩)) ∧ E'[k]? = some x ∧ E'.length ≤ i + 0 + 1 ∧ x.e.2.1.length ≤ i ∧
      Mem w (thO b c p1 p2 b2 c2 p3 base m (.slice (some ⟨g, 0, none⟩) E'.length cap) (keysE E') E'.length (evCells E') (thF base x) ((E'.map (thF base)).eraseIdx k ++ (E'.map (thT base) ++ R))) w2 ∧
      ∀ v' wA, Mem w (thO b c p1 p2 b2 c2 p3 base m (.slice (some ⟨g, 0, none⟩) E'.length cap) (keysE E') E'.length ((evCells E').set (k * 3 + 1) v') (thF base { x with fv := v', e := (x.e.1, x.e.2.1 ++ [i], x.e.2.2) }) ((E'.map (thF base)).eraseIdx k ++ (E'.map (thT base) ++ R))) wA → EvS L b c p1 p2 b2 p3 base m w R (i + 1) 0 wA := by
  obtain ⟨g, k, c2, cap, E', x, rfl, hE, hx, hxe, hc2, hM⟩ := h
  have hI' : EvI L i 0 (E'.map Evm.e) := by
    rcases hE with rfl | ⟨rfl, hno⟩
    · exact hI
    · rw [List.map_append]
      refine hI.new (v := L (false, i)) fun hm => hno ?_
      rw [List.map_map] at hm
      exact hm
  have hk' : ∀ y ∈ E', y.k = 0 := by
    rcases hE with rfl | ⟨rfl, -⟩
    · exact hk
    · intro y hy
      rcases List.mem_append.1 hy with hy | hy
      · exact hk y hy
      · rw [List.mem_singleton.1 hy]; rfl
  have hl' : E'.length ≤ i + 0 + 1 := by
    rcases hE with rfl | ⟨rfl, -⟩
    · omega
    · rw [List.length_append, List.length_singleton]; omega
  have hkl : (keysE E').length = E'.length := by unfold keysE; rw [List.length_map]
  have hkE := (List.getElem?_eq_some_iff.1 hx).1
  have hxm : (E'.map (thF base))[k]? = some (thF base x) := by rw [List.getElem?_map, hx]; rfl
  refine ⟨g, k, c2, cap, E', x, rfl, hx, hl', ?_, ?_, fun v' wA hA => ?_⟩
  · rw [hI'.fr x.e (List.mem_map_of_mem (List.mem_of_getElem? hx))]
    exact Nat.le_trans (List.length_filter_le _ _) (by simp)
  · unfold thE at hM
    rw [hkl] at hM
    refine hM.perm ?_
    exact (((perm_get hxm).append_right _).append_left [_, _, _, _, _, _]).trans (List.perm_middle (l₁ := [_, _, _, _, _, _]))
  · have hx' : (E'.set k { x with fv := v', e := (x.e.1, x.e.2.1 ++ [i], x.e.2.2) }).map Evm.e = addF (E'.map Evm.e) k i := by
      unfold addF
      rw [modify_set (x := x.e) (by rw [List.getElem?_map, hx]; rfl), List.map_set]
    have hkeys : keysE (E'.set k { x with fv := v', e := (x.e.1, x.e.2.1 ++ [i], x.e.2.2) }) = keysE E' := mapS_set hx rfl
    have hoth : (E'.set k { x with fv := v', e := (x.e.1, x.e.2.1 ++ [i], x.e.2.2) }).map (thT base) = E'.map (thT base) := mapS_set hx rfl
    refine ⟨E'.set k { x with fv := v', e := (x.e.1, x.e.2.1 ++ [i], x.e.2.2) }, c2, .slice (some ⟨g, 0, none⟩) E'.length cap, ?_, fun y hy => ?_, by rw [List.length_set]; omega, by rw [List.length_set]; exact hc2, ?_⟩
    · rw [hx']
      exact hI'.addF (e0 := x.e) (by rw [List.getElem?_map, hx]; rfl) hxe
    · rcases List.mem_or_eq_of_mem_set hy with hy | rfl
      · exact hk' y hy
      · exact hk' x (List.mem_of_getElem? hx)
    · unfold thE
      rw [hkeys, hkl, hoth, List.map_set, ← evCells_setF v' _ hx]
      refine hA.perm ?_
      exact ((List.perm_middle (l₁ := [_, _, _, _, _, _])).symm).trans (((perm_set (by simpa using hkE)).symm.append_right _).append_left [_, _, _, _, _, _])
theorem foundT {L : Nd → Nd} {b c p1 p2 b2 p3 base : Nat} {m : Nd → Option Nd} {E : List Evm} {w w2 : World} {R : List Th} {e : Ending} (i j : Nat) (h : FoundE (L (true, j)) b c p1 p2 b2 p3 base m E w R e w2) (hI : EvI L i j (E.map Evm.e)) (hk : ∀ x ∈ E, x.k = 0) (hl : E.length ≤ i + j) :
    ∃ g k c2 cap E' x, e = .returned (.pointer (some ⟨g, k * 3, none⟩)) ∧ E'[k]? = some x ∧ E'.length ≤ i + j + 1 ∧ x.e.2.2.length ≤ j ∧
      Mem w (thO b c p1 p2 b2 c2 p3 base m (.slice (some ⟨g, 0, none⟩) E'.length cap) (keysE E') E'.length (evCells E') (thT base x) (E'.map (thF base) ++ ((E'.map (thT base)).eraseIdx k ++ R))) w2 ∧
      ∀ v' wA, Mem w (thO b c p1 p2 b2 c2 p3 base m (.slice (some ⟨g, 0, none⟩) E'.length cap) (keysE E') E'.length ((evCells E').set (k * 3 + 2) v') (thT base { x with tv := v', e := (x.e.1, x.e.2.1, x.e.2.2 ++ [j]) }) (E'.map (thF base) ++ ((E'.map (thT base)).eraseIdx k ++ R))) wA → EvS L b c p1 p2 b2 p3 base m w R i (j + 1) wA := by
  obtain ⟨g, k, c2, cap, E', x, rfl, hE, hx, hxe, hc2, hM⟩ := h
  have hI' : EvI L i j (E'.map Evm.e) := by
    rcases hE with rfl | ⟨rfl, hno⟩
    · exact hI
    · rw [List.map_append]
      refine hI.new (v := L (true, j)) fun hm => hno ?_
      rw [List.map_map] at hm
      exact hm
  have hk' : ∀ y ∈ E', y.k = 0 := by
    rcases hE with rfl | ⟨rfl, -⟩
    · exact hk
    · intro y hy
      rcases List.mem_append.1 hy with hy | hy
      · exact hk y hy
      · rw [List.mem_singleton.1 hy]; rfl
  have hl' : E'.length ≤ i + j + 1 := by
    rcases hE with rfl | ⟨rfl, -⟩
    · omega
    · rw [List.length_append, List.length_singleton]; omega
  have hkl : (keysE E').length = E'.length := by unfold keysE; rw [List.length_map]
  have hkE := (List.getElem?_eq_some_iff.1 hx).1
  have hxm : (E'.map (thT base))[k]? = some (thT base x) := by rw [List.getElem?_map, hx]; rfl
  refine ⟨g, k, c2, cap, E', x, rfl, hx, hl', ?_, ?_, fun v' wA hA => ?_⟩
  · rw [hI'.to x.e (List.mem_map_of_mem (List.mem_of_getElem? hx))]
    exact Nat.le_trans (List.length_filter_le _ _) (by simp)
  · unfold thE at hM
    rw [hkl] at hM
    refine hM.perm ?_
    exact ((((((perm_get hxm).append_right R).append_left (E'.map (thF base))).trans List.perm_middle)).append_left [_, _, _, _, _, _]).trans (List.perm_middle (l₁ := [_, _, _, _, _, _]))
  · have hx' : (E'.set k { x with tv := v', e := (x.e.1, x.e.2.1, x.e.2.2 ++ [j]) }).map Evm.e = addT (E'.map Evm.e) k j := by
      unfold addT
      rw [modify_set (x := x.e) (by rw [List.getElem?_map, hx]; rfl), List.map_set]
    have hkeys : keysE (E'.set k { x with tv := v', e := (x.e.1, x.e.2.1, x.e.2.2 ++ [j]) }) = keysE E' := mapS_set hx rfl
    have hoth : (E'.set k { x with tv := v', e := (x.e.1, x.e.2.1, x.e.2.2 ++ [j]) }).map (thF base) = E'.map (thF base) := mapS_set hx rfl
    refine ⟨E'.set k { x with tv := v', e := (x.e.1, x.e.2.1, x.e.2.2 ++ [j]) }, c2, .slice (some ⟨g, 0, none⟩) E'.length cap, ?_, fun y hy => ?_, by rw [List.length_set]; omega, by rw [List.length_set]; exact hc2, ?_⟩
    · rw [hx']
      exact hI'.addT (e0 := x.e) (by rw [List.getElem?_map, hx]; rfl) hxe
    · rcases List.mem_or_eq_of_mem_set hy with hy | rfl
      · exact hk' y hy
      · exact hk' x (List.mem_of_getElem? hx)
    · unfold thE
      rw [hkeys, hkl, hoth, List.map_set, ← evCells_setT v' _ hx]
      refine hA.perm ?_
      exact ((List.perm_middle (l₁ := [_, _, _, _, _, _])).symm).trans ((List.perm_middle.symm.trans (((perm_set (by simpa using hkE)).symm.append_right R).append_left _)).append_left [_, _, _, _, _, _])
theorem EvS.rest {L : Nd → Nd} {b c p1 p2 b2 p3 base : Nat} {m : Nd → Option Nd} {w wr : World} {R : List Th} {i j : Nat} (h : EvS L b c p1 p2 b2 p3 base m w R i j wr) : Mem w R wr := by
  obtain ⟨E, c2, v, -, -, -, -, hM⟩ := h
  unfold thE at hM
  have hs : R.Sublist (E.map (thF base) ++ (E.map (thT base) ++ R)) := List.Sublist.trans (List.sublist_append_right _ _) (List.sublist_append_right _ _)
  exact hM.sub (.cons _ (.cons _ (.cons _ (.cons _ (.cons _ (.cons _ hs))))))
/-- The kinds of the first ones are laid. -/
def EvK (L : Nd → Nd) (K0 K1 p3 base n : Nat) (v : Value) (w : World) (k : Nat) (wr : World) : Prop :=
  ∃ E : List Evm, E.length = n ∧ EvI L K0 K1 (E.map Evm.e) ∧ (∀ q x, q < k → E[q]? = some x → x.k = kindZ x.e.2.1.length x.e.2.2.length) ∧ Mem w (.blk p3 49 #[v] :: .row base 106 3 v n (evCells E) :: (E.map (thF base) ++ E.map (thT base))) wr
end Go.Proofs.Ytidbjidcjmbnlaa
end
