/-
  Areas in memory.
  The areas of a sheet.
  The areas of a valid field: opened, Areas, spreadOf.
  A book of maps and tracks as it lies in memory.
  A track begins.
-/
import Derived.Test.YtidbjidcjmbnlaaTmSheet
import Derived.Test.YtidbjidcjmbnlaaTmLead
import Derived.Test.YtidbjidcjmbnlaaTmCount
import Derived.Test.YtidbjidcjmbnlaaRegK
import Derived.Test.YtidbjidcjmbnlaaRegC
import Derived.Test.YtidbjidcjmbnlaaTmKey
import Derived.Test.YtidbjidcjmbnlaaRegY
set_option linter.unusedSimpArgs false
set_option linter.unusedVariables false
section
namespace Go.Proofs.Ytidbjidcjmbnlaa
open Go Go.RowKit

/-- Cells that a function tells. -/
def cellsV (h : Nat → Value) (n : Nat) : Array Value := (Array.range n).map h
theorem cellsV_size {h : Nat → Value} {n : Nat} : (cellsV h n).size = n := by simp [cellsV]
theorem cellsV_at {h : Nat → Value} {n j : Nat} (hj : j < n) : (cellsV h n)[j]? = some (h j) := by simp [cellsV, hj]
def updV {α : Type} (h : Nat → α) (j : Nat) (v : α) : Nat → α := fun i => if i = j then v else h i
theorem updV_at {α : Type} (h : Nat → α) (j : Nat) (v : α) : updV h j v j = v := if_pos rfl
theorem updV_ne {α : Type} {h : Nat → α} {i j : Nat} {v : α} (e : i ≠ j) : updV h j v i = h i := if_neg e
theorem cellsV_upd {h : Nat → Value} {n j : Nat} {v : Value} : (cellsV h n).setIfInBounds j v = cellsV (updV h j v) n := by
  apply Array.ext
  · simp [cellsV]
  · intro i h1 h2
    have h3 : i < n := by simpa [cellsV] using h1
    rw [Array.getElem_setIfInBounds (by simpa [cellsV] using h3)]
    by_cases hi : j = i
    · subst hi
      simp [cellsV, updV]
    · rw [if_neg hi]
      simp only [cellsV, updV, Array.getElem_map, Array.getElem_range]
      rw [if_neg (by omega)]
theorem made_cellsV {cs : Array Value} {n : Nat} (hn : 0 < cs.size) : madeCells cs n = cellsV (fun j => cs.getD (j % cs.size) undef) n := by
  apply Array.ext
  · simp [madeCells, cellsV]
  · intro i h1 h2
    have : i % cs.size < cs.size := Nat.mod_lt _ hn
    simp [madeCells, cellsV, Array.getD, this]
theorem fps_thP (b b' : Nat) (E : List (Value × List Nat)) : fps (E.map (thP b)) = fps (E.map (thP b')) := by
  induction E with
  | nil => rfl
  | cons y l ih => rw [List.map_cons, List.map_cons, fps_cons, fps_cons, ih]; rfl
theorem rowsT_low {w0 W : World} {pre post : List Th} {b b' : Nat} {v : Value} {E : List (Value × List Nat)} (h : Mem w0 (pre ++ (rowsT b v E ++ post)) W) (hb : b' ≤ b) : Mem w0 (pre ++ (rowsT b' v E ++ post)) W := by
  refine h.recast ?_ fun t ht => ?_
  · unfold rowsT
    rw [fps_append, fps_append, fps_append, fps_append, fps_cons, fps_cons, fps_thP b' b]
    rfl
  · rcases List.mem_append.1 ht with h1 | h1
    · exact h.all t (List.mem_append_left _ h1)
    · rcases List.mem_append.1 h1 with h2 | h2
      · unfold rowsT at h2
        rcases List.mem_cons.1 h2 with rfl | h2
        · exact own_mono (show W.ownsRow b 33 1 v E.length (E.reverse.map (·.1)) from h.all (.row b 33 1 v E.length (E.reverse.map (fun x : Value × List Nat => x.1))) (List.mem_append_right _ (List.mem_append_left _ List.mem_cons_self))) hb
        · obtain ⟨y, hy, rfl⟩ := List.mem_map.1 h2
          exact own_mono (show W.ownsRow b 3 1 y.1 y.2.length (numsV y.2) from h.all (thP b y) (List.mem_append_right _ (List.mem_append_left _ (List.mem_cons_of_mem _ (List.mem_map_of_mem hy))))) hb
      · exact h.all t (List.mem_append_right _ (List.mem_append_right _ h2))
/-- A row of lists for each area. -/
def rowsK (base : Nat) (kv : Nat → Value) (ki : Nat → List (Value × List Nat)) (K : Nat) : List Th := (List.range K).map fun i => .row base 33 1 (kv i) (ki i).length ((ki i).map (·.1))
theorem rowsK_get {base K i : Nat} {kv : Nat → Value} {ki : Nat → List (Value × List Nat)} (h : i < K) : (rowsK base kv ki K)[i]? = some (.row base 33 1 (kv i) (ki i).length ((ki i).map (·.1))) := by
  unfold rowsK
  rw [List.getElem?_map, List.getElem?_range h]
  rfl
theorem rowsK_set {base K i : Nat} {kv : Nat → Value} {ki : Nat → List (Value × List Nat)} {v : Value} {y : Value × List Nat} : (rowsK base kv ki K).set i (.row base 33 1 v ((ki i).length + 1) ((ki i).map (·.1) ++ [y.1])) = rowsK base (updV kv i v) (updV ki i (ki i ++ [y])) K := by
  apply List.ext_getElem?
  intro j
  by_cases hj : j < K
  · by_cases e : i = j
    · subst e
      rw [List.getElem?_set_self (by unfold rowsK; simpa using hj), rowsK_get hj, updV_at, updV_at, List.length_append, List.map_append]
      rfl
    · rw [List.getElem?_set_ne e, rowsK_get hj, rowsK_get hj, updV_ne (by omega), updV_ne (by omega)]
  · rw [List.getElem?_eq_none (by rw [List.length_set]; unfold rowsK; simp; omega), List.getElem?_eq_none (by unfold rowsK; simp; omega)]
theorem nil_rows {w0 W : World} {ts : List Th} {base : Nat} (h : Mem w0 ts W) : ∀ K, Mem w0 (rowsK base (fun _ => .slice none 0 0) (fun _ => []) K ++ ts) W
  | 0 => h
  | K + 1 => by
    have h2 := (nil_rows (base := base) h K).nilRow base 33 1
    refine h2.perm ?_
    have e : rowsK base (fun _ => Value.slice none 0 0) (fun _ => []) (K + 1) = rowsK base (fun _ => .slice none 0 0) (fun _ => []) K ++ [.row base 33 1 (.slice none 0 0) 0 []] := by
      unfold rowsK
      rw [List.range_succ, List.map_append]
      rfl
    rw [e, List.append_assoc]
    exact List.perm_middle.symm
/-- An area's cells. -/
def AreaO (h : Nat → Value) (i : Nat) (pv kv : Value) : Prop := h (i * 8) = pv ∧ h (i * 8 + 1) = kv ∧ ∀ k, 2 ≤ k → k < 8 → ∃ z : Int, h (i * 8 + k) = .int .i64 z
theorem AreaO.upd {h : Nat → Value} {i j : Nat} {pv kv v : Value} (H : AreaO h i pv kv) (hj : j / 8 ≠ i) : AreaO (updV h j v) i pv kv := by
  obtain ⟨h1, h2, h3⟩ := H
  refine ⟨by rw [updV_ne (by omega)]; exact h1, by rw [updV_ne (by omega)]; exact h2, fun k hk hk2 => ?_⟩
  rw [updV_ne (by omega)]
  exact h3 k hk hk2
theorem AreaO.kern {h : Nat → Value} {i : Nat} {pv kv v : Value} (H : AreaO h i pv kv) : AreaO (updV h (i * 8 + 1) v) i pv v := by
  obtain ⟨h1, h2, h3⟩ := H
  refine ⟨by rw [updV_ne (by omega)]; exact h1, updV_at _ _ _, fun k hk hk2 => ?_⟩
  rw [updV_ne (by omega)]
  exact h3 k hk hk2
def pvE (E : List (Value × List Nat)) (i : Nat) : Value := (E.reverse.map (·.1)).getD i undef
/-- Areas as they lie in memory. -/
structure Spr where
  bo : Nat
  K : Nat
  h : Nat → Value
  g : Nat
  f : Nat → Int
  E : List (Value × List Nat)
  F : List (Value × List Nat)
  kv : Nat → Value
  ki : Nat → List (Value × List Nat)
def Spr.ts (s : Spr) (base N : Nat) : List Th := .blk s.bo 81 (cellsV s.h (s.K * 8)) :: .blk s.g 3 (cellsF s.f N) :: (rowsK base s.kv s.ki s.K ++ (s.E.map (thP base) ++ s.F.map (thP base)))
def Spr.pix (s : Spr) : List (List Nat) := s.E.reverse.map (·.2)
def Spr.kern (s : Spr) : List (List (List Nat)) := (List.range s.K).map fun i => (s.ki i).map (·.2)
structure Spr.Ok (s : Spr) (W H : Nat) (may inn : Nat → Bool) : Prop where
  len : s.E.length = s.K
  cells : ∀ i, i < s.K → AreaO s.h i (pvE s.E i) (s.kv i)
  kerns : ∀ i, i < s.K → ∀ y ∈ s.ki i, y ∈ s.F
  areas : AreasR W H may inn s.f s.pix s.kern
  le : s.K ≤ W * H
  kls : ∀ i, i < s.K → (s.ki i).length ≤ W * H ∧ ∀ y ∈ s.ki i, y.2.length ≤ W * H
def AreasPost (W H N : Nat) (may inn : Nat → Bool) (w : World) (e : Ending) (w' : World) : Prop :=
  ∃ s : Spr, e = .returned (.tuple #[.slice (some ⟨s.bo, 0, none⟩) s.K s.K, .slice (some ⟨s.g, 0, none⟩) N N]) ∧ Mem w (s.ts w.heap.size N) w' ∧ s.Ok W H may inn
theorem pvE_get {E : List (Value × List Nat)} {i : Nat} (h : i < E.length) : ∃ y, y ∈ E ∧ (E.reverse.map (·.1))[i]? = some y.1 ∧ pvE E i = y.1 ∧ (E.reverse.map (·.2)).getD i [] = y.2 := by
  have hl : i < E.reverse.length := by simpa using h
  refine ⟨E.reverse[i], List.mem_reverse.1 (List.getElem_mem hl), ?_, ?_, ?_⟩
  · rw [List.getElem?_map, List.getElem?_eq_getElem hl]; rfl
  · unfold pvE
    rw [List.getD_eq_getElem?_getD, List.getElem?_map, List.getElem?_eq_getElem hl]; rfl
  · rw [List.getD_eq_getElem?_getD, List.getElem?_map, List.getElem?_eq_getElem hl]; rfl
def upd8 (h : Nat → Value) (o : Nat) (a b : Value) (z : Fin 6 → Int) : Nat → Value := fun j => if j = o then a else if j = o + 1 then b else if j = o + 2 then .int .i64 (z 0) else if j = o + 3 then .int .i64 (z 1) else if j = o + 4 then .int .i64 (z 2) else if j = o + 5 then .int .i64 (z 3) else if j = o + 6 then .int .i64 (z 4) else if j = o + 7 then .int .i64 (z 5) else h j
/-- So many areas are laid. -/
def Ar1 (w : World) (bo K : Nat) (E : List (Value × List Nat)) (i : Nat) (G T : List Th) (wr : World) : Prop := ∃ h : Nat → Value, (∀ j, j < i → AreaO h j (pvE E j) (.slice none 0 0)) ∧ Mem w (.blk bo 81 (cellsV h (K * 8)) :: (G ++ T)) wr
/-- An area is being laid. -/
def Ar2 (w : World) (ab : Nat) (pv : Value) (T : List Th) (wr : World) : Prop := ∃ x0 x1 y0 y1 s0 s1 : Int, Mem w (.blk ab 81 #[pv, .slice none 0 0, .int .i64 x0, .int .i64 x1, .int .i64 y0, .int .i64 y1, .int .i64 s0, .int .i64 s1] :: T) wr
theorem blk_of_full8 {w : World} {base : Nat} {e : TypeId} {g n : Nat} {cs : Array Value} (h : w.ownsRow base e 8 (.slice (some ⟨g, 0, none⟩) n n) n cs.toList) : Blk w g e cs := by
  obtain ⟨hl, hr | ⟨g', cap, cur, hv, hb, hh, h1, h2, h3, h4⟩⟩ := h
  · cases hr.1
  · injection hv with e1 e2 e3
    injection e1 with e1
    injection e1 with e1 _ _
    subst e1 e3
    rw [List.take_of_length_le (by rw [Array.length_toList, h3]; exact Nat.le_refl _)] at h4
    have : cur = cs := Array.toList_inj.1 h4
    subst this
    exact hh
/-- So many kernels are with their areas. -/
def Ar3 (w : World) (bo K hs : Nat) (f : Nat → Int) (E E2 : List (Value × List Nat)) (j : Nat) (R : List Th) (wr : World) : Prop :=
  ∃ (h : Nat → Value) (kv : Nat → Value) (ki : Nat → List (Value × List Nat)), (∀ i, i < K → AreaO h i (pvE E i) (kv i)) ∧ (∀ i, i < K → (ki i).length ≤ j ∧ ∀ y ∈ ki i, y ∈ E2 ∧ ∀ p ∈ y.2, f p = (i : Int)) ∧ Mem w (.blk bo 81 (cellsV h (K * 8)) :: (rowsK hs kv ki K ++ R)) wr
theorem perm_k {α : Type} (a b g : α) (x y : List α) : ((a :: x) ++ (b :: g :: y)).Perm (b :: g :: a :: (y ++ x)) :=
  List.perm_append_comm.trans (.cons _ (.cons _ List.perm_middle))
theorem area8 {h : Nat → Value} {i : Nat} {a b : Value} {z0 z1 z2 z3 z4 z5 : Int} : AreaO (updV (updV (updV (updV (updV (updV (updV (updV h (i * 8) a) (i * 8 + 1) b) (i * 8 + 2) (.int .i64 z0)) (i * 8 + 3) (.int .i64 z1)) (i * 8 + 4) (.int .i64 z2)) (i * 8 + 5) (.int .i64 z3)) (i * 8 + 6) (.int .i64 z4)) (i * 8 + 7) (.int .i64 z5)) i a b := by
  refine ⟨?_, ?_, fun k hk hk2 => ?_⟩
  · simp [updV]
  · simp [updV]
  · obtain rfl | rfl | rfl | rfl | rfl | rfl : k = 2 ∨ k = 3 ∨ k = 4 ∨ k = 5 ∨ k = 6 ∨ k = 7 := by omega
    all_goals exact ⟨_, by simp [updV]; rfl⟩
theorem area8_old {h : Nat → Value} {i j : Nat} {a b p q : Value} {z0 z1 z2 z3 z4 z5 : Int} (H : AreaO h j p q) (hj : j < i) : AreaO (updV (updV (updV (updV (updV (updV (updV (updV h (i * 8) a) (i * 8 + 1) b) (i * 8 + 2) (.int .i64 z0)) (i * 8 + 3) (.int .i64 z1)) (i * 8 + 4) (.int .i64 z2)) (i * 8 + 5) (.int .i64 z3)) (i * 8 + 6) (.int .i64 z4)) (i * 8 + 7) (.int .i64 z5)) j p q :=
  (((((((H.upd (by omega)).upd (by omega)).upd (by omega)).upd (by omega)).upd (by omega)).upd (by omega)).upd (by omega)).upd (by omega)
end Go.Proofs.Ytidbjidcjmbnlaa
end
section
namespace Go.Proofs.Ytidbjidcjmbnlaa
open Go Go.RowKit
attribute [local go_sem] Oper.semAt_some

theorem areaInfo : (Try.prog.info? 81).map (fun i => (i.zero, i.size, i.bytes)) = some (some (.agg #[.slice none 0 0, .slice none 0 0, .int .i64 0, .int .i64 0, .int .i64 0, .int .i64 0, .int .i64 0, .int .i64 0]), 8, 96) := by kernel_rfl
set_option maxHeartbeats 4000000 in
set_option maxRecDepth 100000 in
theorem areas_any (gx gy gs : Int) (W H n c : Nat) (A : Option Addr) (lev : Int) (l : List (Int × Int)) (w : World) (hW : 1 ≤ W) (hH : 1 ≤ H) (hW8 : W ≤ 8) (hH8 : H ≤ 8) (hlev : ∀ p, inB l lev p = true → mayB l lev p = true)
    (hn : l.length = n) (hnN : n = W * H) (hl : Ints w w.heap.size .i64 A (flat2 l)) :
    Calls Try.prog 35 #[.agg (sheetC gx gy gs W H A n c lev)] w (AreasPost W H n (mayB l lev) (inB l lev) w) := by
  have hN1 : 1 ≤ W * H := Nat.mul_pos hW hH
  have hN2 : W * H ≤ 64 := Nat.mul_le_mul hW8 hH8
  have hM := fun V p (hB : Below w.heap.size w V) (hp : p < W * H) => may_any gx gy gs W H A n c lev l p V hn (by omega) (by omega) ((hl.below hB).more hB.size)
  have hI := fun V p (hB : Below w.heap.size w V) (hp : p < W * H) => in_any gx gy gs W H A n c lev l p V hn (by omega) (by omega) ((hl.below hB).more hB.size)
  obtain ⟨bv, ov, rfl, hbv, hcv⟩ := hl.pt (by omega)
  have hVC := fun V (hB : Below w.heap.size w V) q (hq : q < n) => And.intro (Nat.lt_of_lt_of_le hbv hB.size) (And.intro ((cell_of_heap (hB.block bv hbv)).trans (hcv q (by omega)).1) ((cell_of_heap (hB.block bv hbv)).trans (hcv q (by omega)).2))
  have hPM := fun W1 (hB1 : Below w.heap.size w W1) => parts_may gx gy gs W H (.agg (sheetC gx gy gs W H (some ⟨bv, ov, none⟩) n c lev)) (mayB l lev) W1 hW hH hW8 hH8 (fun V p hB hp => hM V p (hB1.trans (hB.mono hB1.size)) hp)
  have hPI := fun W1 (hB1 : Below w.heap.size w W1) => parts_in gx gy gs W H (.agg (sheetC gx gy gs W H (some ⟨bv, ov, none⟩) n c lev)) (inB l lev) W1 hW hH hW8 hH8 (fun V p hB hp => hI V p (hB1.trans (hB.mono hB1.size)) hp)
  unfold sheetC gridC at hPM hPI
  unfold sheetC at hI ⊢
  have hN : W * H = n := hnN.symm
  simp only [hN] at hPM hPI hI hN1 hN2 ⊢
  have hW2 : (W : Int) ≤ 8 := by omega
  have hW0 : ¬ (W : Int) = 0 := by omega
  clear hM hnN hcv
  have HN := hide hN
  have HVC := hide hVC
  have HI := hide hI
  have HPM := hide hPM
  have HPI := hide hPI
  have HL := hide hl
  have HLEV := hide hlev
  clear hN hVC hI hPM hPI hl hlev
  go_enter Try.func35, Try.ntmps35
  have HM := hide (Mem.start w)
  go_wp2_with fail
  refine at_world fun W1 hW => ?_
  have HMn := Mem.to (Mem.allocAt (Mem.allocAt HM.out w.heap.size rfl #[.int .i64 gx, .int .i64 gy, .int .i64 gs, .int .i64 W, .int .i64 H, .slice (some ⟨bv, ov, none⟩) n c, .int .i64 lev] 110) (w.heap.size + 1) (by simp) #[.int .i64 gx, .int .i64 gy, .int .i64 gs, .int .i64 W, .int .i64 H] 28) hW
  have LW : Later w W1 := by rw [hW]; exact (((Below.refl _ _).alloc (Nat.le_refl _) _).alloc (by simp; try omega) _)
  have szW : W1.heap.size = w.heap.size + 2 := by rw [hW]; simp
  clear hW
  replace HM := hide HMn
  clear HMn LW
  clear szW
  refine (HPM.out W1 HM.out.below).mono ?_
  rintro e w2 ⟨v, g, E, f, rfl, hMp, hpi, hall, hE, hne, hKN⟩
  obtain ⟨hs, hhs⟩ : ∃ hs, w.heap.size = hs := ⟨_, rfl⟩
  have hJ := hide (rowsT_low (pre := [_, _, .blk g 3 (cellsF f n)]) (post := []) (by
    have h := (HM.out.joinL hMp).perm List.perm_append_comm
    rw [← List.append_nil (rowsT _ _ _)] at h
    exact h) (b' := hs) (by rw [← hhs]; exact HM.out.size))
  clear HM hMp
  have HM := hJ
  clear hJ
  obtain ⟨K, hK⟩ : ∃ K, E.length = K := ⟨_, rfl⟩
  unfold rowsT at HM
  rw [hK, hhs] at HM
  rw [hK] at hpi hE hKN
  simp only [List.cons_append, List.nil_append, List.append_nil] at HM
  obtain ⟨Av, cv, rfl⟩ := own_shape2 (HM.out.row_ 3 rfl)
  have HPIo := hide hpi
  have HALL := hide hall
  have HE := hide hE
  have HNE := hide hne
  have HK := hide hK
  have HHS := hide hhs
  clear hpi hall hE hne hK hhs
  have hKi : (K : Int) ≤ 64 := by omega
  simp only [HHS.out]
  obtain ⟨i0, hi0, hy0, hy1, hy2⟩ := info_parts areaInfo
  have Hi := hide hi0
  have Hz0 := hide hy0
  have Hz1 := hide hy1
  have Hz2 := hide hy2
  clear hi0 hy0 hy1 hy2
  go_wp2_with (at_make; go_must (refine wpList_make_full _ rfl (.tmp 31) (.tmp 31) 52 rfl w2.heap.size 81 i0 _ 8 Try.underlying52 Hi.out Hz0.out Hz1.out .i64 .i64 _ _ K rfl rfl rfl rfl (by rw [Hz2.out]; omega) (by unfold maxLen; omega) (Nat.le_refl _) ?_))
  intro w3 r1 r2
  have hbo := blk_of_full8 r1
  rw [made_cellsV (by decide)] at hbo
  have HM3 := hide (HM.out.add (below_of_grownT r2) (t := .blk w2.heap.size 81 _) hbo (fun k hk => by rw [List.mem_singleton.1 hk]; exact Nat.le_refl _))
  clear HM r1 r2 hbo
  have HM := HM3
  clear HM3
  obtain ⟨bo, hbo⟩ : ∃ b, w2.heap.size = b := ⟨_, rfl⟩
  rw [hbo] at HM
  simp only [hbo]
  have HA0 := hide (show Ar1 w bo K E 0 [.blk (hs + 1) 28 #[.int .i64 gx, .int .i64 gy, .int .i64 gs, .int .i64 W, .int .i64 H], .blk hs 110 #[.int .i64 gx, .int .i64 gy, .int .i64 gs, .int .i64 W, .int .i64 H, .slice (some ⟨bv, ov, none⟩) n c, .int .i64 lev], .blk g 3 (cellsF f n)] (.row hs 33 1 (.slice Av K cv) K (E.reverse.map (·.1)) :: E.map (thP hs)) w3 from ⟨_, fun j hj => absurd hj (Nat.not_lt_zero _), HM.out⟩)
  clear HM
  obtain ⟨Gb, hGb⟩ : ∃ G : List Th, [.blk (hs + 1) 28 #[.int .i64 gx, .int .i64 gy, .int .i64 gs, .int .i64 W, .int .i64 H], .blk hs 110 #[.int .i64 gx, .int .i64 gy, .int .i64 gs, .int .i64 W, .int .i64 H, .slice (some ⟨bv, ov, none⟩) n c, .int .i64 lev], .blk g 3 (cellsF f n)] = G := ⟨_, rfl⟩
  rw [hGb] at HA0
  have HGB := hide hGb
  clear hGb
  go_wp2_with fail
  go_loopw [35] (fun u wr => ∃ i : Nat, i ≤ K ∧ u = .int .i64 (i : Nat) ∧ Hid (Ar1 w bo K E i Gb (.row hs 33 1 (.slice Av K cv) K (E.reverse.map (·.1)) :: E.map (thP hs)) wr)) (fun u _ => K - (intOf u).toNat)
  case atStart => exact ⟨0, Nat.zero_le _, rfl, HA0⟩
  case round =>
    obtain ⟨i, hiK, rfl, HA⟩ := hrel
    clear HA0
    by_cases hlt : i < K
    · have hlt2 : (i : Int) < K := by omega
      obtain ⟨h, hdone, hM⟩ := HA.out
      rw [← HGB.out] at hM
      simp only [List.cons_append, List.nil_append] at hM
      clear HA
      obtain ⟨y, hyE, hyc, hyp, hy2⟩ := pvE_get (E := E) (i := i) (by rw [HK.out]; exact hlt)
      rw [HE.out, partsL_get hlt] at hy2
      have hown := hM.all (thP hs y) (List.mem_cons_of_mem _ (List.mem_cons_of_mem _ (List.mem_cons_of_mem _ (List.mem_cons_of_mem _ (List.mem_cons_of_mem _ (List.mem_map_of_mem hyE))))))
      obtain ⟨y1, ps⟩ := y
      simp only at hyc hyp hy2
      have hps0 : 0 < ps.length := List.length_pos_iff.2 (HNE.out _ hyE)
      have hpsn : ∀ k, k < ps.length → ps.getD k 0 < n := fun k hk => by
        have hm : ps.getD k 0 ∈ ps := by rw [List.getD_eq_getElem?_getD, List.getElem?_eq_getElem hk]; exact List.getElem_mem _
        have hall2 : ∀ x ∈ ps, x < n := by rw [← hy2]; exact fun x hx => (partL_mem.1 hx).1
        exact hall2 _ hm
      have hown2 : wr.ownsRow hs 3 1 y1 ps.length (numsV ps) := hown
      obtain ⟨Ay, cy, rfl⟩ := own_shape2 hown2
      obtain ⟨m, hm⟩ : ∃ m, ps.length = m := ⟨_, rfl⟩
      have hyE2 := hyE
      rw [hm] at hps0 hpsn hyc hyp hyE hown2
      have hml : m ≤ n := by
        rw [← hm, ← hy2]
        exact Nat.le_trans (List.length_filter_le _ _) (by simp)
      have HM := hide hM
      have HDN := hide hdone
      have HPN := hide hpsn
      have HYP := hide hyp
      have HMm := hide hm
      have HYE := hide hyE
      clear hM hdone hpsn hyp hm hyE
      clear hown hy2 hyE2
      obtain ⟨b5, cur5, e5, -, hb5, -, -, hc5⟩ := row_blk (HM.out.row_ 4 rfl) (by omega)
      subst e5
      have li := hb5.c i (hc5 i _ hyc)
      have lt5 := hb5.lt
      obtain ⟨b6, cur6, e6, -, hb6, -, -, hc6⟩ := row_blk hown2 hps0
      subst e6
      have p0 := hb6.c 0 (hc6 0 _ (numsV_get (by rw [HMm.out]; exact hps0)))
      have lt6 := hb6.lt
      have hp0 := HPN.out 0 hps0
      obtain ⟨q0, hq0⟩ : ∃ q0, ps.getD 0 0 = q0 := ⟨_, rfl⟩
      rw [hq0] at p0 hp0
      have hq0n : (q0 : Int) ≤ 64 := by omega
      have bd : Blk wr (hs + 1) 28 #[.int .i64 gx, .int .i64 gy, .int .i64 gs, .int .i64 W, .int .i64 H] := HM.out.get 1 rfl
      have ltd := bd.lt
      have d0 := bd.c 0 rfl
      have d1 := bd.c 1 rfl
      have d2 := bd.c 2 rfl
      have d3 := bd.c 3 rfl
      have d4 := bd.c 4 rfl
      clear hb5 hc5 hb6 hc6 hown2
      go_wp2_with fail
      go_quiet (fail)
      have hL9 : Below wr.heap.size wr (wr.drewN nq) := below_drewN (Below.refl _ _) nq
      replace HM := hide (HM.out.later hL9)
      clear hL9 d0 d1 d2 d3 d4 ltd bd p0 li lt5 lt6
      generalize hx0 : (q0 : Int) % (W : Int) = x0
      generalize hy0 : wrap64 ((q0 : Int) / (W : Int)) = y0
      clear hx0 hy0
      generalize (wr.drewN nq : World) = wq at *
      go_wp2_with fail
      refine code_world fun w5 hW => ?_
      have HMn := Mem.to (Mem.allocAt HM.out wq.heap.size rfl #[.slice (some ⟨b6, 0, none⟩) m cy, .slice none 0 0, .int .i64 x0, .int .i64 x0, .int .i64 y0, .int .i64 y0, .int .i64 0, .int .i64 0] 81) hW
      have LW : Later wq w5 := by rw [hW]; exact ((Below.refl _ _).alloc (Nat.le_refl _) _)
      have szW : w5.heap.size = wq.heap.size + 1 := by rw [hW]; simp
      clear hW
      replace HM := hide HMn
      clear HMn LW
      clear szW
      obtain ⟨ab, hab⟩ : ∃ b, wq.heap.size = b := ⟨_, rfl⟩
      rw [hab] at HM
      simp only [hab]
      obtain ⟨T, hT⟩ : ∃ T : List Th, .blk bo 81 (cellsV h (K * 8)) :: .blk (hs + 1) 28 #[.int .i64 gx, .int .i64 gy, .int .i64 gs, .int .i64 W, .int .i64 H] :: .blk hs 110 #[.int .i64 gx, .int .i64 gy, .int .i64 gs, .int .i64 W, .int .i64 H, .slice (some ⟨bv, ov, none⟩) n c, .int .i64 lev] :: .blk g 3 (cellsF f n) :: .row hs 33 1 (.slice (some ⟨b5, 0, none⟩) K cv) K (E.reverse.map (·.1)) :: E.map (thP hs) = T := ⟨_, rfl⟩
      rw [hT] at HM
      have HI0 := hide (show Ar2 w ab (.slice (some ⟨b6, 0, none⟩) m cy) T w5 from ⟨_, _, _, _, _, _, HM.out⟩)
      clear HM
      have HT := hide hT
      clear hT
      go_loopw [62] (fun u wr => ∃ k : Nat, k ≤ m ∧ u = .int .i64 (k : Nat) ∧ Hid (Ar2 w ab (.slice (some ⟨b6, 0, none⟩) m cy) T wr)) (fun u _ => m - (intOf u).toNat)
      case atStart => exact ⟨0, Nat.zero_le _, rfl, HI0⟩
      case round =>
        obtain ⟨k, hkm, rfl, HA2⟩ := hrel
        clear HI0
        by_cases hlk : k < m
        · have hlk2 : (k : Int) < m := by omega
          obtain ⟨x0, x1, y0, y1, s0, s1, hM⟩ := HA2.out
          rw [← HT.out] at hM
          clear HA2
          have hown := hM.all (thP hs (.slice (some ⟨b6, 0, none⟩) m cy, ps)) (List.mem_cons_of_mem _ (List.mem_cons_of_mem _ (List.mem_cons_of_mem _ (List.mem_cons_of_mem _ (List.mem_cons_of_mem _ (List.mem_cons_of_mem _ (List.mem_map_of_mem HYE.out)))))))
          have hown2 : wr.ownsRow hs 3 1 (.slice (some ⟨b6, 0, none⟩) m cy) m (numsV ps) := by
            have h2 : wr.ownsRow hs 3 1 (.slice (some ⟨b6, 0, none⟩) m cy) ps.length (numsV ps) := hown
            rw [HMm.out] at h2
            exact h2
          obtain ⟨b7, cur7, e7, -, hb7, -, -, hc7⟩ := row_blk hown2 (by omega)
          have e8 : b6 = b7 := congrArg (fun o : Option Addr => (o.getD ⟨0, 0, none⟩).block) e7
          subst e8
          have hq := HPN.out k hlk
          have pk := hb7.c k (hc7 k _ (numsV_get (by rw [HMm.out]; exact hlk)))
          have lt6 := hb7.lt
          obtain ⟨q, hqe⟩ : ∃ q, ps.getD k 0 = q := ⟨_, rfl⟩
          rw [hqe] at hq pk
          have hqn : (q : Int) ≤ 64 := by omega
          clear hown hown2 hb7 hc7 e7 hqe
          have HM := hide hM
          clear hM
          have KH := hide (fun lo hi z W => hull_any lo hi z W)
          have ba : Blk wr ab 81 #[.slice (some ⟨b6, 0, none⟩) m cy, .slice none 0 0, .int .i64 x0, .int .i64 x1, .int .i64 y0, .int .i64 y1, .int .i64 s0, .int .i64 s1] := HM.out.get 0 rfl
          have lta := ba.lt
          have a0 := ba.c 0 rfl
          have a1 := ba.c 1 rfl
          have a2 := ba.c 2 rfl
          have a3 := ba.c 3 rfl
          have a4 := ba.c 4 rfl
          have a5 := ba.c 5 rfl
          have a6 := ba.c 6 rfl
          have a7 := ba.c 7 rfl
          have bd : Blk wr (hs + 1) 28 #[.int .i64 gx, .int .i64 gy, .int .i64 gs, .int .i64 W, .int .i64 H] := HM.out.get 2 rfl
          have ltd := bd.lt
          have d0 := bd.c 0 rfl
          have d1 := bd.c 1 rfl
          have d2 := bd.c 2 rfl
          have d3 := bd.c 3 rfl
          have d4 := bd.c 4 rfl
          go_wp2_with fail
          refine wp_region_cut 15 (by kernel_rfl) (by simp only [List.take_succ_cons, List.take_zero]; exact rfl) (by simp only [List.drop_succ_cons, List.drop_zero]; exact rfl) (by kernel_rfl) ?_
          apply any_region_J (w0 := wr) [[], [], [], [], [], [], [], [], [], [], [], [], [], [], []] [true, true, true, true, true, true, true, true, true, true, true, true, true, true, true] [] (fun ixq y => match ixq with  | _ => undef) (fun ixq x F wq => match ixq with  | _ => True) (fun a x => a) (by kernel_rfl) (fun _ => rfl) [72, 79] (by kernel_rfl)
          · intro x D hD
            have hne := hD.some
            have k0 := liftB hD a2 (by first | assumption | omega)
            have k1 := liftB hD a3 (by first | assumption | omega)
            have k2 := liftB hD a4 (by first | assumption | omega)
            have k3 := liftB hD a5 (by first | assumption | omega)
            have k4 := liftB hD d3 (by first | assumption | omega)
            simp only [takeOps, Act.put, List.setIfInBounds_toArray, List.set_cons_succ, List.set_cons_zero]
            repeat (go_big_quiet_step ((go_at_call 65; exact calls_later hD _ (KH.out _ _ _ _))))
            exact wpQuiet_nil rfl
          · intro d hd x x'
            simp only [List.mem_cons, List.not_mem_nil, or_false] at hd
            rcases hd with rfl | rfl
            all_goals rfl
          · exact trivial
          · exact trivial
          intro xx w6 F hL hlv1 hap1
          clear hap1
          clear hlv1
          refine ⟨rfl, ?_⟩
          replace HM := hide (HM.out.later hL)
          clear hL ba lta a0 a1 a2 a3 a4 a5 a6 a7 bd ltd d0 d1 d2 d3 d4
          have ba : Blk w6 ab 81 #[.slice (some ⟨b6, 0, none⟩) m cy, .slice none 0 0, .int .i64 x0, .int .i64 x1, .int .i64 y0, .int .i64 y1, .int .i64 s0, .int .i64 s1] := HM.out.get 0 rfl
          have lta := ba.lt
          have a0 := ba.c 0 rfl
          have fa0 := ba.frozen 0
          have a1 := ba.c 1 rfl
          have fa1 := ba.frozen 1
          have a2 := ba.c 2 rfl
          have fa2 := ba.frozen 2
          have a3 := ba.c 3 rfl
          have fa3 := ba.frozen 3
          have a4 := ba.c 4 rfl
          have fa4 := ba.frozen 4
          have a5 := ba.c 5 rfl
          have fa5 := ba.frozen 5
          have a6 := ba.c 6 rfl
          have fa6 := ba.frozen 6
          have a7 := ba.c 7 rfl
          have fa7 := ba.frozen 7
          go_upto_region 13 with fail
          refine code_world fun w7 hw7 => ?_
          obtain ⟨x2, hx2⟩ : ∃ z, min x0 ((q : Int) % (W : Int)) = z := ⟨_, rfl⟩
          obtain ⟨x3, hx3⟩ : ∃ z, max x1 ((q : Int) % (W : Int)) = z := ⟨_, rfl⟩
          obtain ⟨y2, hy2⟩ : ∃ z, min y0 (wrap64 ((q : Int) / (W : Int))) = z := ⟨_, rfl⟩
          obtain ⟨y3, hy3⟩ : ∃ z, max y1 (wrap64 ((q : Int) / (W : Int))) = z := ⟨_, rfl⟩
          rw [hx2, hx3, hy2, hy3] at hw7
          have HM7 := hide (Mem.to ((((HM.out.set_ 0 rfl 2 (.int .i64 x2) (cs' := #[.slice (some ⟨b6, 0, none⟩) m cy, .slice none 0 0, .int .i64 x2, .int .i64 x1, .int .i64 y0, .int .i64 y1, .int .i64 s0, .int .i64 s1]) rfl).set_ 0 rfl 3 (.int .i64 x3) (cs' := #[.slice (some ⟨b6, 0, none⟩) m cy, .slice none 0 0, .int .i64 x2, .int .i64 x3, .int .i64 y0, .int .i64 y1, .int .i64 s0, .int .i64 s1]) rfl).set_ 0 rfl 4 (.int .i64 y2) (cs' := #[.slice (some ⟨b6, 0, none⟩) m cy, .slice none 0 0, .int .i64 x2, .int .i64 x3, .int .i64 y2, .int .i64 y1, .int .i64 s0, .int .i64 s1]) rfl).set_ 0 rfl 5 (.int .i64 y3) (cs' := #[.slice (some ⟨b6, 0, none⟩) m cy, .slice none 0 0, .int .i64 x2, .int .i64 x3, .int .i64 y2, .int .i64 y3, .int .i64 s0, .int .i64 s1]) rfl) hw7)
          clear HM hw7 hx2 hx3 hy2 hy3 a0 a1 a2 a3 a4 a5 a6 a7 fa0 fa1 fa2 fa3 fa4 fa5 fa6 fa7 lta ba
          have HM := HM7
          clear HM7
          simp only [List.set_cons_zero] at HM
          obtain ⟨ltv, v0, v1⟩ := HVC.out w7 HM.out.below q hq
          generalize (l.getD q (0, 0)).1 = vl at v0
          generalize (l.getD q (0, 0)).2 = vh at v1
          have ba : Blk w7 ab 81 #[.slice (some ⟨b6, 0, none⟩) m cy, .slice none 0 0, .int .i64 x2, .int .i64 x3, .int .i64 y2, .int .i64 y3, .int .i64 s0, .int .i64 s1] := HM.out.get 0 rfl
          have lta := ba.lt
          have a0 := ba.c 0 rfl
          have a1 := ba.c 1 rfl
          have a2 := ba.c 2 rfl
          have a3 := ba.c 3 rfl
          have a4 := ba.c 4 rfl
          have a5 := ba.c 5 rfl
          have a6 := ba.c 6 rfl
          have a7 := ba.c 7 rfl
          have c5 := (HM.out.blk_ 3 rfl).c 5 rfl
          have lts := (HM.out.blk_ 3 rfl).lt
          refine wp_region_cut 11 (by kernel_rfl) (by simp only [List.take_succ_cons, List.take_zero]; exact rfl) (by simp only [List.drop_succ_cons, List.drop_zero]; exact rfl) (by kernel_rfl) ?_
          apply any_region_J (w0 := w7) [[], [], [], [], [], [], [], [], [], [], []] [true, true, true, true, true, true, true, true, true, true, true] [] (fun ixq y => match ixq with  | _ => undef) (fun ixq x F wq => match ixq with  | _ => True) (fun a x => a) (by kernel_rfl) (fun _ => rfl) [] (by kernel_rfl)
          · intro x D hD
            have hne := hD.some
            have k0 := liftB hD a7 (by first | assumption | omega)
            have k1 := liftB hD c5 (by first | assumption | omega)
            have k2 := liftB hD v1 (by first | assumption | omega)
            simp only [takeOps, Act.put, List.setIfInBounds_toArray, List.set_cons_succ, List.set_cons_zero]
            repeat (go_big_quiet_step (fail))
            exact wpQuiet_nil rfl
          · exact fun _ h => absurd h (by simp)
          · exact trivial
          · exact trivial
          intro xx w8 F hL hlv2 hap2
          clear hap2
          clear hlv2
          refine ⟨rfl, ?_⟩
          clear v0 v1 ltv c5 lts
          replace HM := hide (HM.out.later hL)
          clear hL ba lta a0 a1 a2 a3 a4 a5 a6 a7
          have ba : Blk w8 ab 81 #[.slice (some ⟨b6, 0, none⟩) m cy, .slice none 0 0, .int .i64 x2, .int .i64 x3, .int .i64 y2, .int .i64 y3, .int .i64 s0, .int .i64 s1] := HM.out.get 0 rfl
          have lta := ba.lt
          have a0 := ba.c 0 rfl
          have fa0 := ba.frozen 0
          have a1 := ba.c 1 rfl
          have fa1 := ba.frozen 1
          have a2 := ba.c 2 rfl
          have fa2 := ba.frozen 2
          have a3 := ba.c 3 rfl
          have fa3 := ba.frozen 3
          have a4 := ba.c 4 rfl
          have fa4 := ba.frozen 4
          have a5 := ba.c 5 rfl
          have fa5 := ba.frozen 5
          have a6 := ba.c 6 rfl
          have fa6 := ba.frozen 6
          have a7 := ba.c 7 rfl
          have fa7 := ba.frozen 7
          go_upto_region 14 with fail
          refine code_world fun w9 hw9 => ?_
          obtain ⟨s3, hs3⟩ : ∃ z, wrap64 (s1 + vh) = z := ⟨_, rfl⟩
          rw [hs3] at hw9
          have HM9 := hide (Mem.to (HM.out.set_ 0 rfl 7 (.int .i64 s3) (cs' := #[.slice (some ⟨b6, 0, none⟩) m cy, .slice none 0 0, .int .i64 x2, .int .i64 x3, .int .i64 y2, .int .i64 y3, .int .i64 s0, .int .i64 s3]) rfl) hw9)
          clear HM hw9 hs3 a0 a1 a2 a3 a4 a5 a6 a7 fa0 fa1 fa2 fa3 fa4 fa5 fa6 fa7 lta ba
          have HM := HM9
          clear HM9
          simp only [List.set_cons_zero] at HM
          have hin := HI.out w9 q HM.out.below hq
          obtain ⟨r, hr⟩ : ∃ r, inB l lev q = r := ⟨_, rfl⟩
          rw [hr] at hin
          have HIN := hide hin
          clear hin
          clear hr
          have be : Blk w9 hs 110 #[.int .i64 gx, .int .i64 gy, .int .i64 gs, .int .i64 W, .int .i64 H, .slice (some ⟨bv, ov, none⟩) n c, .int .i64 lev] := HM.out.get 3 rfl
          have lte := be.lt
          have e0 := be.c 0 rfl
          have e1 := be.c 1 rfl
          have e2 := be.c 2 rfl
          have e3 := be.c 3 rfl
          have e4 := be.c 4 rfl
          have e5 := be.c 5 rfl
          have e6 := be.c 6 rfl
          go_wp2_with fail
          refine (HIN.out).mono ?_
          rintro e w10 ⟨rfl, hb⟩
          replace HM := hide (HM.out.later hb)
          clear hb be lte e0 e1 e2 e3 e4 e5 e6
          cases r with
          | true =>
            obtain ⟨ltv, v0, v1⟩ := HVC.out w10 HM.out.below q hq
            generalize (l.getD q (0, 0)).1 = ul at v0
            clear v1
            have ba : Blk w10 ab 81 #[.slice (some ⟨b6, 0, none⟩) m cy, .slice none 0 0, .int .i64 x2, .int .i64 x3, .int .i64 y2, .int .i64 y3, .int .i64 s0, .int .i64 s3] := HM.out.get 0 rfl
            have lta := ba.lt
            have a0 := ba.c 0 rfl
            have a1 := ba.c 1 rfl
            have a2 := ba.c 2 rfl
            have a3 := ba.c 3 rfl
            have a4 := ba.c 4 rfl
            have a5 := ba.c 5 rfl
            have a6 := ba.c 6 rfl
            have a7 := ba.c 7 rfl
            have c5 := (HM.out.blk_ 3 rfl).c 5 rfl
            have lts := (HM.out.blk_ 3 rfl).lt
            go_wp2_with fail
            refine wp_region_cut 11 (by kernel_rfl) (by simp only [List.take_succ_cons, List.take_zero]; exact rfl) (by simp only [List.drop_succ_cons, List.drop_zero]; exact rfl) (by kernel_rfl) ?_
            apply any_region_J (w0 := w10) [[], [], [], [], [], [], [], [], [], [], []] [true, true, true, true, true, true, true, true, true, true, true] [] (fun ixq y => match ixq with  | _ => undef) (fun ixq x F wq => match ixq with  | _ => True) (fun a x => a) (by kernel_rfl) (fun _ => rfl) [] (by kernel_rfl)
            · intro x D hD
              have hne := hD.some
              have k0 := liftB hD a6 (by first | assumption | omega)
              have k1 := liftB hD c5 (by first | assumption | omega)
              have k2 := liftB hD v0 (by first | assumption | omega)
              simp only [takeOps, Act.put, List.setIfInBounds_toArray, List.set_cons_succ, List.set_cons_zero]
              repeat (go_big_quiet_step (fail))
              exact wpQuiet_nil rfl
            · exact fun _ h => absurd h (by simp)
            · exact trivial
            · exact trivial
            intro xx w11 F hL hlv3 hap3
            clear hap3
            clear hlv3
            refine ⟨rfl, ?_⟩
            clear v0 ltv c5 lts
            replace HM := hide (HM.out.later hL)
            clear hL ba lta a0 a1 a2 a3 a4 a5 a6 a7
            have ba : Blk w11 ab 81 #[.slice (some ⟨b6, 0, none⟩) m cy, .slice none 0 0, .int .i64 x2, .int .i64 x3, .int .i64 y2, .int .i64 y3, .int .i64 s0, .int .i64 s3] := HM.out.get 0 rfl
            have lta := ba.lt
            have a0 := ba.c 0 rfl
            have fa0 := ba.frozen 0
            have a1 := ba.c 1 rfl
            have fa1 := ba.frozen 1
            have a2 := ba.c 2 rfl
            have fa2 := ba.frozen 2
            have a3 := ba.c 3 rfl
            have fa3 := ba.frozen 3
            have a4 := ba.c 4 rfl
            have fa4 := ba.frozen 4
            have a5 := ba.c 5 rfl
            have fa5 := ba.frozen 5
            have a6 := ba.c 6 rfl
            have fa6 := ba.frozen 6
            have a7 := ba.c 7 rfl
            have fa7 := ba.frozen 7
            go_upto_region 16 with fail
            refine code_world fun w12 hw12 => ?_
            obtain ⟨s2, hs2⟩ : ∃ z, wrap64 (s0 + ul) = z := ⟨_, rfl⟩
            rw [hs2] at hw12
            have HM12 := hide (Mem.to (HM.out.set_ 0 rfl 6 (.int .i64 s2) (cs' := #[.slice (some ⟨b6, 0, none⟩) m cy, .slice none 0 0, .int .i64 x2, .int .i64 x3, .int .i64 y2, .int .i64 y3, .int .i64 s2, .int .i64 s3]) rfl) hw12)
            clear HM hw12 hs2 a0 a1 a2 a3 a4 a5 a6 a7 fa0 fa1 fa2 fa3 fa4 fa5 fa6 fa7 lta ba
            have HI2 := hide (show Ar2 w ab (.slice (some ⟨b6, 0, none⟩) m cy) T w12 from ⟨_, _, _, _, _, _, by rw [← HT.out]; exact HM12.out⟩)
            clear HM12
            go_wp2_with fail
            go_roundw
            case rel => exact ⟨k + 1, hlk, by go_num, HI2⟩
            case measure => simp [intOf] <;> omega
          | false =>
            have HI2 := hide (show Ar2 w ab (.slice (some ⟨b6, 0, none⟩) m cy) T w10 from ⟨_, _, _, _, _, _, by rw [← HT.out]; exact HM.out⟩)
            clear HM
            go_wp2_with fail
            go_roundw
            case rel => exact ⟨k + 1, hlk, by go_num, HI2⟩
            case measure => simp [intOf] <;> omega
        · obtain rfl : k = m := by omega
          have hkk : ¬ ((k : Int) < k) := by omega
          obtain ⟨x0, x1, y0, y1, s0, s1, hM⟩ := HA2.out
          rw [← HT.out] at hM
          clear HA2
          have HM := hide hM
          clear hM
          have bo0 := HM.out.blk_ 1 rfl
          have lto := bo0.lt
          have o0 := bo0.c (i * 8) (cellsV_at (h := h) (n := K * 8) (by omega))
          have fo0 := bo0.frozen (i * 8)
          have o1 := bo0.c (i * 8 + 1) (cellsV_at (h := h) (n := K * 8) (by omega))
          have fo1 := bo0.frozen (i * 8 + 1)
          have o2 := bo0.c (i * 8 + 2) (cellsV_at (h := h) (n := K * 8) (by omega))
          have fo2 := bo0.frozen (i * 8 + 2)
          have o3 := bo0.c (i * 8 + 3) (cellsV_at (h := h) (n := K * 8) (by omega))
          have fo3 := bo0.frozen (i * 8 + 3)
          have o4 := bo0.c (i * 8 + 4) (cellsV_at (h := h) (n := K * 8) (by omega))
          have fo4 := bo0.frozen (i * 8 + 4)
          have o5 := bo0.c (i * 8 + 5) (cellsV_at (h := h) (n := K * 8) (by omega))
          have fo5 := bo0.frozen (i * 8 + 5)
          have o6 := bo0.c (i * 8 + 6) (cellsV_at (h := h) (n := K * 8) (by omega))
          have fo6 := bo0.frozen (i * 8 + 6)
          have o7 := bo0.c (i * 8 + 7) (cellsV_at (h := h) (n := K * 8) (by omega))
          have fo7 := bo0.frozen (i * 8 + 7)
          have ba : Blk wr ab 81 #[.slice (some ⟨b6, 0, none⟩) k cy, .slice none 0 0, .int .i64 x0, .int .i64 x1, .int .i64 y0, .int .i64 y1, .int .i64 s0, .int .i64 s1] := HM.out.get 0 rfl
          have lta := ba.lt
          have a0 := ba.c 0 rfl
          have a1 := ba.c 1 rfl
          have a2 := ba.c 2 rfl
          have a3 := ba.c 3 rfl
          have a4 := ba.c 4 rfl
          have a5 := ba.c 5 rfl
          have a6 := ba.c 6 rfl
          have a7 := ba.c 7 rfl
          have hnab := HM.out.ne 0 1 rfl rfl (by decide)
          go_upto_region 18 with fail
          refine code_world fun w13 hw13 => ?_
          have hM13 := Mem.to ((((((((HM.out.set_ 1 rfl (i * 8) (.slice (some ⟨b6, 0, none⟩) k cy) cellsV_upd).set_ 1 rfl (i * 8 + 1) (.slice none 0 0) cellsV_upd).set_ 1 rfl (i * 8 + 2) (.int .i64 x0) cellsV_upd).set_ 1 rfl (i * 8 + 3) (.int .i64 x1) cellsV_upd).set_ 1 rfl (i * 8 + 4) (.int .i64 y0) cellsV_upd).set_ 1 rfl (i * 8 + 5) (.int .i64 y1) cellsV_upd).set_ 1 rfl (i * 8 + 6) (.int .i64 s0) cellsV_upd).set_ 1 rfl (i * 8 + 7) (.int .i64 s1) cellsV_upd) hw13
          simp only [List.set_cons_zero, List.set_cons_succ] at hM13
          have HA1 := hide (show Ar1 w bo K E (i + 1) Gb (.row hs 33 1 (.slice (some ⟨b5, 0, none⟩) K cv) K (E.reverse.map (·.1)) :: E.map (thP hs)) w13 from by
            rw [← HGB.out]
            refine ⟨_, fun j hj => ?_, hM13.drop 0 rfl⟩
            by_cases e : j = i
            · subst e
              rw [HYP.out]
              exact area8
            · exact area8_old (HDN.out j (by omega)) (by omega))
          clear HM hM13 hw13 bo0 lto o0 fo0 o1 fo1 o2 fo2 o3 fo3 o4 fo4 o5 fo5 o6 fo6 o7 fo7 a0 a1 a2 a3 a4 a5 a6 a7 lta ba hnab
          go_wp2_with fail
          go_roundw
          case rel => exact ⟨i + 1, hlt, by go_num, HA1⟩
          case measure => simp [intOf] <;> omega
    · obtain rfl : i = K := by omega
      have hii : ¬ ((i : Int) < i) := by omega
      obtain ⟨h, hdone, hM⟩ := HA.out
      rw [← HGB.out] at hM
      simp only [List.cons_append, List.nil_append] at hM
      clear HA
      have HM := hide hM
      have HDN := hide hdone
      clear hM hdone
      have bd : Blk wr (hs + 1) 28 #[.int .i64 gx, .int .i64 gy, .int .i64 gs, .int .i64 W, .int .i64 H] := HM.out.get 1 rfl
      have ltd := bd.lt
      have d0 := bd.c 0 rfl
      have d1 := bd.c 1 rfl
      have d2 := bd.c 2 rfl
      have d3 := bd.c 3 rfl
      have d4 := bd.c 4 rfl
      have be : Blk wr hs 110 #[.int .i64 gx, .int .i64 gy, .int .i64 gs, .int .i64 W, .int .i64 H, .slice (some ⟨bv, ov, none⟩) n c, .int .i64 lev] := HM.out.get 2 rfl
      have lte := be.lt
      have e0 := be.c 0 rfl
      have e1 := be.c 1 rfl
      have e2 := be.c 2 rfl
      have e3 := be.c 3 rfl
      have e4 := be.c 4 rfl
      have e5 := be.c 5 rfl
      have e6 := be.c 6 rfl
      go_wp2_with fail
      refine (HPI.out wr HM.out.below).mono ?_
      rintro e w4 ⟨v2, g2, E2, f2, rfl, hMp, hpi2, hall2, hE2, hne2, hKN2⟩
      obtain ⟨K2, hK2⟩ : ∃ K, E2.length = K := ⟨_, rfl⟩
      have hj4 := rowsT_low (pre := [.blk g2 3 (cellsF f2 n)]) (HM.out.joinL hMp) (b' := hs) (by rw [← HHS.out]; exact HM.out.size)
      unfold rowsT at hj4
      rw [hK2] at hpi2 hE2 hKN2 hj4
      simp only [List.cons_append, List.nil_append] at hj4
      have h5 := (hj4.tail.sub (.cons_cons _ (List.Sublist.append (List.Sublist.refl _) (.cons_cons _ (.cons _ (.cons _ (.cons_cons _ (.cons _ (List.Sublist.refl _)))))))) : Mem w ((.row hs 33 1 v2 K2 (E2.reverse.map (fun x => x.1)) :: E2.map (thP hs)) ++ (.blk bo 81 (cellsV h (i * 8)) :: .blk g 3 (cellsF f n) :: E.map (thP hs))) w4).perm (perm_k _ _ _ _ _)
      have h6 := (nil_rows (base := hs) h5 i).perm List.perm_middle
      obtain ⟨R, hR⟩ : ∃ R : List Th, (.blk g 3 (cellsF f n) :: .row hs 33 1 v2 K2 (E2.reverse.map (fun x => x.1)) :: (E.map (thP hs) ++ E2.map (thP hs))) = R := ⟨_, rfl⟩
      rw [hR] at h6
      have HA3 := hide (show Ar3 w bo i hs f E E2 0 R w4 from ⟨h, fun _ => .slice none 0 0, fun _ => [], HDN.out, fun q _ => ⟨Nat.le_refl _, fun y hy => absurd hy List.not_mem_nil⟩, h6⟩)
      have hr2 := h5.row_ 2 rfl
      obtain ⟨A2, c2, rfl⟩ := own_shape2 hr2
      clear hMp hj4 h5 h6 hr2 HM d0 d1 d2 d3 d4 ltd bd e0 e1 e2 e3 e4 e5 e6 lte be
      have hK2i : (K2 : Int) ≤ 64 := by omega
      have HR := hide hR
      have HPI2 := hide hpi2
      have HE2 := hide hE2
      have HNE2 := hide hne2
      have HK2 := hide hK2
      have HALL2 := hide hall2
      clear hR hpi2 hE2 hne2 hK2 hall2
      go_wp2_with fail
      go_loopw [126] (fun u wr => ∃ j : Nat, j ≤ K2 ∧ u = .int .i64 (j : Nat) ∧ Hid (Ar3 w bo i hs f E E2 j R wr)) (fun u _ => K2 - (intOf u).toNat)
      case atStart => exact ⟨0, Nat.zero_le _, rfl, HA3⟩
      case round =>
        obtain ⟨j, hjK, rfl, HA⟩ := hrel
        clear HA3
        by_cases hlt : j < K2
        · have hlt2 : (j : Int) < K2 := by omega
          obtain ⟨h, kv, ki, ha, hk, hM⟩ := HA.out
          rw [← HR.out] at hM
          clear HA
          obtain ⟨y, hyE, hyc, hyp, hy2⟩ := pvE_get (E := E2) (i := j) (by rw [HK2.out]; exact hlt)
          rw [HE2.out, partsL_get hlt] at hy2
          have hfg := hM.all (.blk g 3 (cellsF f n)) (List.mem_cons_of_mem _ (List.mem_append_right _ List.mem_cons_self))
          have hrw := hM.all (.row hs 33 1 (.slice A2 K2 c2) K2 (E2.reverse.map (fun x => x.1))) (List.mem_cons_of_mem _ (List.mem_append_right _ (List.mem_cons_of_mem _ List.mem_cons_self)))
          have hown := hM.all (thP hs y) (List.mem_cons_of_mem _ (List.mem_append_right _ (List.mem_cons_of_mem _ (List.mem_cons_of_mem _ (List.mem_append_right _ (List.mem_map_of_mem hyE))))))
          have hfg2 : Blk wr g 3 (cellsF f n) := hfg
          have hrw2 : wr.ownsRow hs 33 1 (.slice A2 K2 c2) K2 (E2.reverse.map (fun x => x.1)) := hrw
          obtain ⟨b8, cur8, rfl, -, hb8, -, -, hc8⟩ := row_blk hrw2 (by omega)
          have l8 := hb8.c j (hc8 j _ hyc)
          have lt8 := hb8.lt
          obtain ⟨y1, ps⟩ := y
          simp only at hyc hyp hy2
          have hown2 : wr.ownsRow hs 3 1 y1 ps.length (numsV ps) := hown
          have hps0 : 0 < ps.length := List.length_pos_iff.2 (HNE2.out _ hyE)
          obtain ⟨Ay, cy, rfl⟩ := own_shape2 hown2
          obtain ⟨b9, cur9, e9, -, hb9, -, -, hc9⟩ := row_blk hown2 hps0
          have p9 := hb9.c 0 (hc9 0 _ (numsV_get hps0))
          have lt9 := hb9.lt
          subst e9
          have hmem : ∀ p, p ∈ ps → p < n ∧ f2 p = (j : Int) := fun p hp => by rw [← hy2] at hp; exact partL_mem.1 hp
          have hp0 := hmem (ps.getD 0 0) (by rw [List.getD_eq_getElem?_getD, List.getElem?_eq_getElem hps0]; exact List.getElem_mem _)
          obtain ⟨p0, hp0e⟩ : ∃ p, ps.getD 0 0 = p := ⟨_, rfl⟩
          rw [hp0e] at p9 hp0
          have hin : ∀ p, p < n → f2 p = (j : Int) → inB l lev p = true := fun p hp h2 => by
            rcases HPI2.out.lab p hp with h3 | ⟨-, -, h3⟩
            · omega
            · exact h3
          have hf0 := HALL.out p0 hp0.1 (HLEV.out p0 (hin p0 hp0.1 hp0.2))
          have hfK : f p0 < i := by
            rcases HPIo.out.lab p0 hp0.1 with h3 | ⟨-, h3, -⟩
            · omega
            · exact h3
          obtain ⟨a, hae⟩ : ∃ a : Nat, f p0 = (a : Int) := ⟨(f p0).toNat, by omega⟩
          have hai : a < i := by omega
          have hsame : ∀ p ∈ ps, f p = (a : Int) := fun p hp => by
            have h1 := hmem p hp
            have hnb := nb_ok W H
            rw [HN.out] at hnb
            rw [← hae]
            exact kern_area hnb HPIo.out HALL.out HPI2.out (fun q hq hw => HLEV.out q hw) h1.1 hp0.1 (by omega) (by omega)
          have g0 := hfg2.c p0 (cellsF_at hp0.1)
          have ltg := hfg2.lt
          rw [hae] at g0
          have hM1 := hM.perm ((List.Perm.cons _ ((perm_get (rowsK_get hai)).append_right _)).trans (List.Perm.swap _ _ _))
          obtain ⟨u, hu⟩ : ∃ u, kv a = u := ⟨_, rfl⟩
          obtain ⟨ql, hql⟩ : ∃ q, ki a = q := ⟨_, rfl⟩
          obtain ⟨m, hm⟩ : ∃ m, ql.length = m := ⟨_, rfl⟩
          obtain ⟨RK, hRK⟩ : ∃ q : List Th, ((rowsK hs kv ki i).eraseIdx a).append (.blk g 3 (cellsF f n) :: .row hs 33 1 (.slice (some ⟨b8, 0, none⟩) K2 c2) K2 (E2.reverse.map (fun x => x.1)) :: (E.map (thP hs) ++ E2.map (thP hs))) = q := ⟨_, rfl⟩
          have hmj := (hk a hai).1
          have hha := (ha a hai).2.1
          rw [hql, hm] at hmj
          rw [hu] at hha
          rw [hRK, hql, hm, hu] at hM1
          obtain ⟨Ak, ck, hu2⟩ := own_shape2 (hM1.row_ 0 rfl)
          rw [hu2] at hM1 hha
          have HAA := hide ha
          have HKK := hide hk
          have HM := hide hM1
          have HRK := hide hRK
          have HU := hide hu
          have HU2 := hide hu2
          have HQL := hide hql
          have HMm := hide hm
          have HSA := hide hsame
          have HYE := hide hyE
          clear ha hk hM1 hRK hu hu2 hql hm hsame hyE
          clear hM hfg hrw hown hfg2 hrw2 hb8 hc8 hown2 hb9 hc9 hy2 hyc hyp hmem hin hf0 hfK Hi Hz0 Hz1 Hz2
          have bo0 := HM.out.blk_ 1 rfl
          have lto := bo0.lt
          have o1 := bo0.c (a * 8 + 1) (cellsV_at (h := h) (n := i * 8) (by omega))
          rw [hha] at o1
          have hp02 : (p0 : Int) < n := by omega
          have hai2 : (a : Int) < i := by omega
          obtain ⟨i0, hi0, hy0, hy1, hy2⟩ := info_parts partsInfo
          have Hi := hide hi0
          have Hz0 := hide hy0
          have Hz1 := hide hy1
          have Hz2 := hide hy2
          clear hi0 hy0 hy1 hy2
          have hbaseM : hs ≤ wr.heap.size := by rw [← HHS.out]; exact HM.out.size
          have hownM := Mem.row_ HM.out 0 rfl
          
          go_wp2_with (at_builtin; refine wpList_append_own_at _ rfl (.tmp 142) (.tmp 144) _ rfl _ 33 i0 _ 1 24 Try.underlying79 Hi.out Hz0.out Hz1.out Hz2.out rfl (by decide) _ m (ql.map (fun x => x.1)) rfl (hownM.alloc _) ⟨wr.heap.size, 0, none⟩ 1 1 [.slice (some ⟨b9, 0, none⟩) ps.length cy] rfl rfl ?q1c1 (by intro u hu; simp only [List.mem_cons, List.not_mem_nil, or_false] at hu; rcases hu with rfl <;> rfl) ?q1c3 ?q1c4 ?q1c5 ?_)
          try case q1c1 => exact new_cellsQ wr _ [.slice (some ⟨b9, 0, none⟩) ps.length cy]
          case q1c3 => unfold maxLen; omega
          case q1c4 => omega
          case q1c5 => first | omega | (simp; omega)
          intro vA wA hown2 hgr2 _ hat2
          have HMn := HM.out.grow 0 rfl _ hgr2 hown2 hat2
          replace HM := hide HMn
          clear HMn hown2 hgr2 hat2 hownM hbaseM
          clear bo0 lto o1 l8 lt8 p9 lt9 g0 ltg
          obtain ⟨A7, c7, rfl⟩ := own_shape2 (HM.out.row_ 0 rfl)
          have bo0 := HM.out.blk_ 1 rfl
          have lto := bo0.lt
          have o1 := bo0.c (a * 8 + 1) (cellsV_at (h := h) (n := i * 8) (by omega))
          have fo1 := bo0.frozen (a * 8 + 1)
          have hM9 := (HM.out.set_ 1 rfl (a * 8 + 1) (.slice A7 (m + 1) c7) cellsV_upd).perm (List.Perm.swap _ _ _)
          rw [← HRK.out] at hM9
          have hlen : a < (rowsK hs kv ki i).length := by unfold rowsK; simpa using hai
          have hM10 := hM9.perm (.cons _ ((perm_set hlen).symm.append_right _))
          rw [← HMm.out, ← HQL.out] at hM10
          rw [show (Th.row hs 33 1 (.slice A7 ((ki a).length + 1) c7) ((ki a).length + 1) ((ki a).map (fun x => x.1) ++ [.slice (some ⟨b9, 0, none⟩) ps.length cy])) = .row hs 33 1 (.slice A7 ((ki a).length + 1) c7) ((ki a).length + 1) ((ki a).map (fun x => x.1) ++ [((.slice (some ⟨b9, 0, none⟩) ps.length cy, ps) : Value × List Nat).1]) from rfl, rowsK_set, HQL.out, HMm.out] at hM10
          have HA9 := hide (show Ar3 w bo i hs f E E2 (j + 1) R _ from by
            rw [← HR.out]
            refine ⟨_, _, _, fun q hq => ?_, fun q hq => ?_, hM10⟩
            · by_cases e : q = a
              · subst e
                rw [updV_at]
                exact (HAA.out q hq).kern
              · rw [updV_ne e]
                exact (HAA.out q hq).upd (by omega)
            · by_cases e : q = a
              · subst e
                rw [updV_at, List.length_append, HMm.out]
                refine ⟨by simp; omega, fun z hz => ?_⟩
                rcases List.mem_append.1 hz with hz | hz
                · rw [← HQL.out] at hz
                  exact (HKK.out q hq).2 z hz
                · rw [List.mem_singleton.1 hz]
                  exact ⟨HYE.out, HSA.out⟩
              · rw [updV_ne e]
                exact ⟨Nat.le_succ_of_le (HKK.out q hq).1, (HKK.out q hq).2⟩)
          clear hM9 hM10 HM
          go_wp2_with fail
          go_roundw
          case rel => exact ⟨j + 1, hlt, by go_num, HA9⟩
          case measure => simp [intOf] <;> omega
        · obtain rfl : j = K2 := by omega
          have hjj : ¬ ((j : Int) < j) := by omega
          obtain ⟨h, kv, ki, ha, hk, hM⟩ := HA.out
          rw [← HR.out] at hM
          have hM2 := (hM.sub (.cons_cons _ (List.Sublist.append (List.Sublist.refl _) (.cons_cons _ (.cons _ (List.Sublist.refl _)))))).perm (.cons _ List.perm_middle)
          have HAA := hide ha
          have HKK := hide hk
          have HM2 := hide hM2
          clear ha hk hM2
          clear hM HA
          go_wp2_with fail
          refine bodyPost_ret (v := .tuple #[.slice (some ⟨bo, 0, none⟩) i i, .slice (some ⟨g, 0, none⟩) n n]) (by simp [results, Try.results35, go_sem]) rfl ?_
          refine ⟨⟨bo, i, h, g, f, E, E2, kv, ki⟩, rfl, by rw [HHS.out]; exact HM2.out, HK.out, HAA.out, fun q hq y hy => ((HKK.out q hq).2 y hy).1, ?_, by rw [HN.out]; exact hKN, fun q hq => ⟨Nat.le_trans (HKK.out q hq).1 (by rw [HN.out]; exact hKN2), fun y hy => ?_⟩⟩
          rotate_left
          · have hyp : y.2 ∈ partsL n f2 j := by rw [← HE2.out]; exact List.mem_map_of_mem (List.mem_reverse.2 ((HKK.out q hq).2 y hy).1)
            unfold partsL at hyp
            obtain ⟨k', -, hk'⟩ := List.mem_map.1 hyp
            rw [← hk', HN.out]
            unfold partL
            exact Nat.le_trans (List.length_filter_le _ _) (Nat.le_of_eq List.length_range)
          have hpl : (E.reverse.map (fun x => x.2)).length = i := by rw [HE.out]; exact partsL_len _ _ _
          have hget : ∀ q, q < i → (E.reverse.map (fun x => x.2)).getD q [] = partL n f q := fun q hq => by rw [HE.out]; exact partsL_get hq
          have hkg : ∀ q, q < i → ((List.range i).map fun q => (ki q).map (fun x => x.2)).getD q [] = (ki q).map (fun x => x.2) := fun q hq => by
            rw [List.getD_eq_getElem?_getD, List.getElem?_map, List.getElem?_range hq]; rfl
          constructor
          · unfold Spr.pix
            dsimp only
            rw [hpl, HN.out]
            exact HPIo.out
          · rw [HN.out]; exact HALL.out
          · unfold Spr.pix Spr.kern
            dsimp only
            rw [hpl, List.length_map, List.length_range]
          · unfold Spr.pix
            dsimp only
            rw [hpl, HN.out]
            intro q hq p
            rw [hget q hq]
            exact partL_mem
          · unfold Spr.pix
            dsimp only
            rw [hpl]
            intro q hq
            rw [hget q hq]
            exact partL_sort _ _ _
          · unfold Spr.pix
            dsimp only
            rw [hpl]
            intro q hq
            have hqE : q < E.reverse.length := by rw [List.length_reverse, HK.out]; exact hq
            rw [List.getD_eq_getElem?_getD, List.getElem?_map, List.getElem?_eq_getElem hqE]
            exact HNE.out _ (List.mem_reverse.1 (List.getElem_mem hqE))
          · unfold Spr.pix Spr.kern
            dsimp only
            rw [hpl, HN.out]
            intro q hq k hk p hp
            rw [hkg q hq] at hk
            obtain ⟨y, hy, rfl⟩ := List.mem_map.1 hk
            obtain ⟨hyE, hyf⟩ := (HKK.out q hq).2 y hy
            have hyp : y.2 ∈ partsL n f2 j := by rw [← HE2.out]; exact List.mem_map_of_mem (List.mem_reverse.2 hyE)
            unfold partsL at hyp
            obtain ⟨k', -, hk'⟩ := List.mem_map.1 hyp
            rw [← hk'] at hp
            obtain ⟨h1, h2⟩ := partL_mem.1 hp
            refine ⟨h1, ?_, hyf p (by rw [← hk']; exact hp)⟩
            rcases HPI2.out.lab p h1 with h3 | ⟨-, -, h3⟩
            · omega
            · exact h3
end Go.Proofs.Ytidbjidcjmbnlaa
end
section
namespace Go.Proofs.Ytidbjidcjmbnlaa
open Go Go.RowKit
attribute [local go_sem] Oper.semAt_some

set_option maxHeartbeats 1000000 in
set_option maxRecDepth 100000 in
theorem opened_ok (gx gy gs W H : Int) (A : Option Addr) (n c : Nat) (lev : Int) (l : List (Int × Int)) (w : World) (hn : l.length = n) (hmax : n ≤ 9223372036854775807) (hv : 1 ≤ lev ∧ lev ≤ 1073741824) (he : fieldE (gridE gx gy gs W H) n W H l 1073741824 = 0) (hl : Ints w w.heap.size .i64 A (flat2 l)) :
    Calls Try.prog 34 #[.agg #[.int .i64 gx, .int .i64 gy, .int .i64 gs, .int .i64 W, .int .i64 H, .slice A n c], .int .i64 lev] w fun e w' => e = .returned (.tuple #[.agg (sheetC gx gy gs W H A n c lev), .int .i64 0]) ∧ Below w.heap.size w w' := by
  have hc := fun V (hB : Below w.heap.size w V) => CheckField_any gx gy gs W H A n c l V hn hmax ((hl.below hB).more hB.size)
  rw [he] at hc
  obtain ⟨v1, v2⟩ := hv
  have v1' : ¬ lev < 1 := by omega
  have v2' : ¬ 1073741824 < lev := by omega
  unfold fieldV at hc
  unfold sheetC
  have HC := hide hc
  clear hc
  clear hn hl he hmax
  go_enter Try.func34, Try.ntmps34
  have HM := hide (Mem.start w)
  go_wp2_with fail
  refine at_world fun W1 hW => ?_
  have HMn := Mem.to (Mem.allocAt (Mem.allocAt HM.out w.heap.size rfl #[.int .i64 gx, .int .i64 gy, .int .i64 gs, .int .i64 W, .int .i64 H, .slice A n c] 41) (w.heap.size + 1) (by simp) #[.int .i64 0, .int .i64 0, .int .i64 0, .int .i64 0, .int .i64 0, .slice none 0 0, .int .i64 0] 110) hW
  have LW : Later w W1 := by rw [hW]; exact (((Below.refl _ _).alloc (Nat.le_refl _) _).alloc (by simp; try omega) _)
  have szW : W1.heap.size = w.heap.size + 2 := by rw [hW]; simp
  clear hW
  replace HM := hide HMn
  clear HMn LW
  clear szW
  refine (HC.out _ HM.out.below).mono ?_
  rintro e w2 ⟨rfl, hb⟩
  replace HM := hide (HM.out.later hb)
  clear hb
  have ba : Blk w2 w.heap.size 41 #[.int .i64 gx, .int .i64 gy, .int .i64 gs, .int .i64 W, .int .i64 H, .slice A n c] := HM.out.get 1 rfl
  have lta := ba.lt
  have a0 := ba.c 0 rfl
  have a1 := ba.c 1 rfl
  have a2 := ba.c 2 rfl
  have a3 := ba.c 3 rfl
  have a4 := ba.c 4 rfl
  have a5 := ba.c 5 rfl
  have bq : Blk w2 (w.heap.size + 1) 110 #[.int .i64 0, .int .i64 0, .int .i64 0, .int .i64 0, .int .i64 0, .slice none 0 0, .int .i64 0] := HM.out.get 0 rfl
  have ltq := bq.lt
  have q0 := bq.c 0 rfl
  have fq0 := bq.frozen 0
  have q1 := bq.c 1 rfl
  have fq1 := bq.frozen 1
  have q2 := bq.c 2 rfl
  have fq2 := bq.frozen 2
  have q3 := bq.c 3 rfl
  have fq3 := bq.frozen 3
  have q4 := bq.c 4 rfl
  have fq4 := bq.frozen 4
  have q5 := bq.c 5 rfl
  have fq5 := bq.frozen 5
  have q6 := bq.c 6 rfl
  have fq6 := bq.frozen 6
  go_wp2_with fail
  refine ret_world fun V hV => ?_
  have hM9 := Mem.to (((((((HM.out.set_ 0 rfl 0 (.int .i64 gx) (cs' := #[.int .i64 gx, .int .i64 0, .int .i64 0, .int .i64 0, .int .i64 0, .slice none 0 0, .int .i64 0]) rfl).set_ 0 rfl 1 (.int .i64 gy) (cs' := #[.int .i64 gx, .int .i64 gy, .int .i64 0, .int .i64 0, .int .i64 0, .slice none 0 0, .int .i64 0]) rfl).set_ 0 rfl 2 (.int .i64 gs) (cs' := #[.int .i64 gx, .int .i64 gy, .int .i64 gs, .int .i64 0, .int .i64 0, .slice none 0 0, .int .i64 0]) rfl).set_ 0 rfl 3 (.int .i64 W) (cs' := #[.int .i64 gx, .int .i64 gy, .int .i64 gs, .int .i64 W, .int .i64 0, .slice none 0 0, .int .i64 0]) rfl).set_ 0 rfl 4 (.int .i64 H) (cs' := #[.int .i64 gx, .int .i64 gy, .int .i64 gs, .int .i64 W, .int .i64 H, .slice none 0 0, .int .i64 0]) rfl).set_ 0 rfl 5 (.slice A n c) (cs' := #[.int .i64 gx, .int .i64 gy, .int .i64 gs, .int .i64 W, .int .i64 H, .slice A n c, .int .i64 0]) rfl).set_ 0 rfl 6 (.int .i64 lev) (cs' := #[.int .i64 gx, .int .i64 gy, .int .i64 gs, .int .i64 W, .int .i64 H, .slice A n c, .int .i64 lev]) rfl) hV
  clear hV a0 a1 a2 a3 a4 a5 lta ba q0 q1 q2 q3 q4 q5 q6 fq0 fq1 fq2 fq3 fq4 fq5 fq6 ltq bq
  have hb9 := hM9.blk_ 0 rfl
  have r0 := hb9.c 0 rfl
  have r1 := hb9.c 1 rfl
  have r2 := hb9.c 2 rfl
  have r3 := hb9.c 3 rfl
  have r4 := hb9.c 4 rfl
  have r5 := hb9.c 5 rfl
  have r6 := hb9.c 6 rfl
  refine bodyPost_ret (v := .tuple #[.agg #[.int .i64 gx, .int .i64 gy, .int .i64 gs, .int .i64 W, .int .i64 H, .slice A n c, .int .i64 lev], .int .i64 0]) (by simp [results, Try.results34, go_sem, r0, r1, r2, r3, r4, r5, r6]) rfl ⟨rfl, hM9.below⟩
/-- What lies behind the areas of a field. -/
def AreasOk (W H N : Nat) (may inn : Nat → Bool) (w : World) (e : Ending) (w' : World) : Prop :=
  ∃ s : Spr, e = .returned (.tuple #[.slice (some ⟨s.bo, 0, none⟩) s.K s.K, .int .i64 0]) ∧ Mem w (s.ts w.heap.size N) w' ∧ s.Ok W H may inn
theorem Spr.low {s : Spr} {b b' N : Nat} : (s.ts b N).map (Th.loB b') = s.ts b' N := by
  unfold Spr.ts rowsK
  simp only [List.map_cons, List.map_append, List.map_map]
  rfl
theorem Spr.rise {s : Spr} {w0 w w' : World} {N : Nat} {ts : List Th} (h0 : Mem w0 ts w) (h : Mem w (s.ts w.heap.size N) w') : Mem w0 (s.ts w0.heap.size N ++ ts) w' := by
  have h1 := h.lowAll (b := w0.heap.size) h0.size
  rw [Spr.low] at h1
  exact h0.joinL h1
set_option maxHeartbeats 1000000 in
set_option maxRecDepth 100000 in
theorem Areas_ok (gx gy gs : Int) (W H n c : Nat) (A : Option Addr) (lev : Int) (l : List (Int × Int)) (w : World) (hW : 1 ≤ W) (hH : 1 ≤ H) (hW8 : W ≤ 8) (hH8 : H ≤ 8) (hlev : ∀ p, inB l lev p = true → mayB l lev p = true) (hv : 1 ≤ lev ∧ lev ≤ 1073741824)
    (hn : l.length = n) (hnN : n = W * H) (he : fieldE (gridE gx gy gs W H) n W H l 1073741824 = 0) (hl : Ints w w.heap.size .i64 A (flat2 l)) :
    Calls Try.prog 14 #[.agg #[.int .i64 gx, .int .i64 gy, .int .i64 gs, .int .i64 W, .int .i64 H, .slice A n c], .int .i64 lev] w (AreasOk W H n (mayB l lev) (inB l lev) w) := by
  have hN2 : n ≤ 64 := by rw [hnN]; exact Nat.mul_le_mul hW8 hH8
  have ho := fun V (hB : Below w.heap.size w V) => opened_ok gx gy gs W H A n c lev l V hn (by omega) hv he ((hl.below hB).more hB.size)
  have ha := fun V (hB : Below w.heap.size w V) => areas_any gx gy gs W H n c A lev l V hW hH hW8 hH8 hlev hn hnN ((hl.below hB).more hB.size)
  unfold sheetC at ho ha
  have HO := hide ho
  have HA := hide ha
  clear ho ha
  clear hn hl he hlev hnN
  go_enter Try.func14, Try.ntmps14
  have HM := hide (Mem.start w)
  go_wp2_with fail
  refine at_world fun W1 hW => ?_
  have HMn := Mem.to (Mem.allocAt HM.out w.heap.size rfl #[.int .i64 gx, .int .i64 gy, .int .i64 gs, .int .i64 W, .int .i64 H, .slice A n c] 41) hW
  have LW : Later w W1 := by rw [hW]; exact ((Below.refl _ _).alloc (Nat.le_refl _) _)
  have szW : W1.heap.size = w.heap.size + 1 := by rw [hW]; simp
  clear hW
  replace HM := hide HMn
  clear HMn LW
  clear szW
  refine (HO.out _ HM.out.below).mono ?_
  rintro e w2 ⟨rfl, hb⟩
  replace HM := hide (HM.out.later hb)
  clear hb
  go_wp2_with fail
  refine at_world fun w3 hW => ?_
  have HMn := Mem.to (Mem.allocAt HM.out w2.heap.size rfl #[.int .i64 gx, .int .i64 gy, .int .i64 gs, .int .i64 W, .int .i64 H, .slice A n c, .int .i64 lev] 110) hW
  have LW : Later w2 w3 := by rw [hW]; exact ((Below.refl _ _).alloc (Nat.le_refl _) _)
  have szW : w3.heap.size = w2.heap.size + 1 := by rw [hW]; simp
  clear hW
  replace HM := hide HMn
  clear HMn LW
  clear szW
  refine (HA.out w3 HM.out.below).mono ?_
  rintro e w4 ⟨s, rfl, hMs, hok⟩
  have hM5 := (Spr.rise HM.out hMs).sub (List.sublist_append_left _ _)
  have HM5 := hide hM5
  have HOK := hide hok
  clear hMs hM5 hok HM
  go_wp2
  refine bodyPost_ret (v := .tuple #[.slice (some ⟨s.bo, 0, none⟩) s.K s.K, .int .i64 0]) (by simp [results, Try.results14, go_sem]) rfl ⟨s, rfl, HM5.out, HOK.out⟩
def spreadC (gx gy gs : Int) (W H N : Nat) (s : Spr) : Array Value := #[.int .i64 gx, .int .i64 gy, .int .i64 gs, .int .i64 (W : Nat), .int .i64 (H : Nat), .slice (some ⟨s.bo, 0, none⟩) s.K s.K, .slice (some ⟨s.g, 0, none⟩) N N]
def SpreadPost (gx gy gs : Int) (W H N : Nat) (may inn : Nat → Bool) (w : World) (e : Ending) (w' : World) : Prop :=
  ∃ s : Spr, e = .returned (.agg (spreadC gx gy gs W H N s)) ∧ Mem w (s.ts w.heap.size N) w' ∧ s.Ok W H may inn
set_option maxHeartbeats 1000000 in
set_option maxRecDepth 100000 in
theorem spread_any (gx gy gs : Int) (W H n c : Nat) (A : Option Addr) (lev : Int) (l : List (Int × Int)) (w : World) (hW : 1 ≤ W) (hH : 1 ≤ H) (hW8 : W ≤ 8) (hH8 : H ≤ 8) (hlev : ∀ p, inB l lev p = true → mayB l lev p = true)
    (hn : l.length = n) (hnN : n = W * H) (hl : Ints w w.heap.size .i64 A (flat2 l)) :
    Calls Try.prog 30 #[.agg #[.int .i64 gx, .int .i64 gy, .int .i64 gs, .int .i64 W, .int .i64 H, .slice A n c], .int .i64 lev] w (SpreadPost gx gy gs W H n (mayB l lev) (inB l lev) w) := by
  have hN2 : n ≤ 64 := by rw [hnN]; exact Nat.mul_le_mul hW8 hH8
  have ha := fun V (hB : Below w.heap.size w V) => areas_any gx gy gs W H n c A lev l V hW hH hW8 hH8 hlev hn hnN ((hl.below hB).more hB.size)
  unfold sheetC at ha
  have HA := hide ha
  clear ha
  clear hn hl hlev hnN
  go_enter Try.func30, Try.ntmps30
  have HM := hide (Mem.start w)
  go_wp2_with fail
  refine at_world fun W1 hW => ?_
  have HMn := Mem.to (Mem.allocAt (Mem.allocAt HM.out w.heap.size rfl #[.int .i64 gx, .int .i64 gy, .int .i64 gs, .int .i64 W, .int .i64 H, .slice A n c] 41) (w.heap.size + 1) (by simp) #[.int .i64 0, .int .i64 0, .int .i64 0, .int .i64 0, .int .i64 0, .slice none 0 0, .slice none 0 0] 102) hW
  have LW : Later w W1 := by rw [hW]; exact (((Below.refl _ _).alloc (Nat.le_refl _) _).alloc (by simp; try omega) _)
  have szW : W1.heap.size = w.heap.size + 2 := by rw [hW]; simp
  clear hW
  replace HM := hide HMn
  clear HMn LW
  clear szW
  refine (HA.out W1 HM.out.below).mono ?_
  rintro e w4 ⟨s, rfl, hMs, hok⟩
  have hM5 := (Spr.rise HM.out hMs).perm List.perm_append_comm
  have HM5 := hide hM5
  have HOK := hide hok
  clear hMs hM5 hok HM
  have HM := HM5
  clear HM5
  simp only [List.cons_append, List.nil_append] at HM
  have ba : Blk w4 w.heap.size 41 #[.int .i64 gx, .int .i64 gy, .int .i64 gs, .int .i64 W, .int .i64 H, .slice A n c] := HM.out.get 1 rfl
  have lta := ba.lt
  have a0 := ba.c 0 rfl
  have a1 := ba.c 1 rfl
  have a2 := ba.c 2 rfl
  have a3 := ba.c 3 rfl
  have a4 := ba.c 4 rfl
  have a5 := ba.c 5 rfl
  have bq : Blk w4 (w.heap.size + 1) 102 #[.int .i64 0, .int .i64 0, .int .i64 0, .int .i64 0, .int .i64 0, .slice none 0 0, .slice none 0 0] := HM.out.get 0 rfl
  have ltq := bq.lt
  have q0 := bq.c 0 rfl
  have fq0 := bq.frozen 0
  have q1 := bq.c 1 rfl
  have fq1 := bq.frozen 1
  have q2 := bq.c 2 rfl
  have fq2 := bq.frozen 2
  have q3 := bq.c 3 rfl
  have fq3 := bq.frozen 3
  have q4 := bq.c 4 rfl
  have fq4 := bq.frozen 4
  have q5 := bq.c 5 rfl
  have fq5 := bq.frozen 5
  have q6 := bq.c 6 rfl
  have fq6 := bq.frozen 6
  go_wp2_with fail
  refine ret_world fun V hV => ?_
  have hM9 := Mem.to (((((((HM.out.set_ 0 rfl 0 (.int .i64 gx) (cs' := #[.int .i64 gx, .int .i64 0, .int .i64 0, .int .i64 0, .int .i64 0, .slice none 0 0, .slice none 0 0]) rfl).set_ 0 rfl 1 (.int .i64 gy) (cs' := #[.int .i64 gx, .int .i64 gy, .int .i64 0, .int .i64 0, .int .i64 0, .slice none 0 0, .slice none 0 0]) rfl).set_ 0 rfl 2 (.int .i64 gs) (cs' := #[.int .i64 gx, .int .i64 gy, .int .i64 gs, .int .i64 0, .int .i64 0, .slice none 0 0, .slice none 0 0]) rfl).set_ 0 rfl 3 (.int .i64 W) (cs' := #[.int .i64 gx, .int .i64 gy, .int .i64 gs, .int .i64 W, .int .i64 0, .slice none 0 0, .slice none 0 0]) rfl).set_ 0 rfl 4 (.int .i64 H) (cs' := #[.int .i64 gx, .int .i64 gy, .int .i64 gs, .int .i64 W, .int .i64 H, .slice none 0 0, .slice none 0 0]) rfl).set_ 0 rfl 5 (.slice (some ⟨s.bo, 0, none⟩) s.K s.K) (cs' := #[.int .i64 gx, .int .i64 gy, .int .i64 gs, .int .i64 W, .int .i64 H, .slice (some ⟨s.bo, 0, none⟩) s.K s.K, .slice none 0 0]) rfl).set_ 0 rfl 6 (.slice (some ⟨s.g, 0, none⟩) n n) (cs' := #[.int .i64 gx, .int .i64 gy, .int .i64 gs, .int .i64 W, .int .i64 H, .slice (some ⟨s.bo, 0, none⟩) s.K s.K, .slice (some ⟨s.g, 0, none⟩) n n]) rfl) hV
  clear hV a0 a1 a2 a3 a4 a5 lta ba q0 q1 q2 q3 q4 q5 q6 fq0 fq1 fq2 fq3 fq4 fq5 fq6 ltq bq
  have hb9 := hM9.blk_ 0 rfl
  have r0 := hb9.c 0 rfl
  have r1 := hb9.c 1 rfl
  have r2 := hb9.c 2 rfl
  have r3 := hb9.c 3 rfl
  have r4 := hb9.c 4 rfl
  have r5 := hb9.c 5 rfl
  have r6 := hb9.c 6 rfl
  refine bodyPost_ret (v := .agg #[.int .i64 gx, .int .i64 gy, .int .i64 gs, .int .i64 W, .int .i64 H, .slice (some ⟨s.bo, 0, none⟩) s.K s.K, .slice (some ⟨s.g, 0, none⟩) n n]) (by simp [results, Try.results30, go_sem, r0, r1, r2, r3, r4, r5, r6]) rfl ⟨s, rfl, hM9.tail.tail, HOK.out⟩
end Go.Proofs.Ytidbjidcjmbnlaa
end
section
namespace Go.Proofs.Ytidbjidcjmbnlaa
open Go Go.RowKit

/-- Several things are turned at once, and some are new. -/
theorem Mem.turn {w0 W W' : World} {old news rest : List Th} (h : Mem w0 (old ++ rest) W) (hk : Kept (fun k => k < W.heap.size ∧ k ∉ fps old) W W') (hok : ∀ t ∈ news, t.ok W') (hnd : (fps news).Nodup) (hn : ∀ k ∈ fps news, k ∈ fps old ∨ W.heap.size ≤ k) : Mem w0 (news ++ rest) W' := by
  have hnd0 := h.nodup
  rw [fps_append, List.nodup_append] at hnd0
  obtain ⟨-, n2, n3⟩ := hnd0
  have hlt := h.lt
  have hlow := h.low
  rw [fps_append] at hlt hlow
  have hsz := h.size
  refine ⟨fun x hx => ?_, ?_, fun k hk' => ?_, ?_⟩
  · rcases List.mem_append.1 hx with hx | hx
    · exact hok x hx
    · have hxt := h.all x (List.mem_append_right _ hx)
      exact Th.stab hxt fun k hk' => hk.block k ⟨Th.lt hxt k hk', fun hm => n3 k hm k (List.mem_flatMap.2 ⟨x, hx, hk'⟩) rfl⟩
  · rw [fps_append, List.nodup_append]
    refine ⟨hnd, n2, fun a ha b hb e => ?_⟩
    subst e
    rcases hn a ha with h1 | h1
    · exact n3 a h1 a hb rfl
    · have := hlt a (List.mem_append_right _ hb); omega
  · rw [fps_append] at hk'
    rcases List.mem_append.1 hk' with h1 | h1
    · rcases hn k h1 with h2 | h2
      · exact hlow k (List.mem_append_left _ h2)
      · omega
    · exact hlow k (List.mem_append_right _ h1)
  · refine h.below.trans ⟨hk.os, hk.tape, hk.output, hk.size, fun k hk' => hk.block k ⟨by omega, fun hm => ?_⟩⟩
    have := hlow k (List.mem_append_left _ hm); omega
/-- Behind a region that appends to a row and stores into another block; new things lie behind. -/
theorem Mem.pushed {w0 W w2 : World} {t0 t0' : Th} {rest nw : List Th} {base : Nat} {e : TypeId} {size n n' i j p : Nat} {v v' : Value} {xs xs' : List Value} (h : Mem w0 (t0 :: .row base e size v n xs :: rest) W) (hp : t0.fp = [p]) (hp' : t0'.fp = [p])
    (hK : Kept (fun k => k < W.heap.size ∧ free (fillQ i v j p) k) W w2) (hown : w2.ownsRow base e size v' n' xs') (hfr : FreshOr W.heap.size v v') (h0 : t0'.ok w2) (hnw : ∀ t ∈ nw, t.ok w2) (hnd : (fps nw).Nodup) (hnl : ∀ k ∈ fps nw, W.heap.size ≤ k ∧ k ∉ optL v') :
    Mem w0 (t0' :: .row base e size v' n' xs' :: (nw ++ rest)) w2 := by
  have hap : ∀ k ∈ t0.fp, k ∉ optL v := h.apart 0 1 rfl rfl (by decide)
  rw [hp] at hap
  have hpv : p ∉ optL v := hap p (List.mem_singleton.2 rfl)
  have hpl : p < W.heap.size := h.lt p (by rw [fps_cons, hp]; simp)
  have hv' : ∀ k ∈ optL v', k ∈ optL v ∨ W.heap.size ≤ k := fun k hk => by
    rcases hfr with e | ⟨g, e, hg⟩
    · exact .inl (by unfold optL at hk ⊢; rw [← e]; exact hk)
    · rw [optL_iff, e] at hk
      have := Option.some.inj hk
      exact .inr (by omega)
  have hpv' : p ∉ optL v' := fun hm => by
    rcases hv' p hm with h1 | h1
    · exact hpv h1
    · omega
  refine Mem.turn (old := [t0, .row base e size v n xs]) (news := t0' :: .row base e size v' n' xs' :: nw) (rest := rest) h ⟨hK.os, hK.tape, hK.output, hK.size, fun k hk => hK.block k ⟨hk.1, freeQ (fun e => hk.2 ?_) (fun e => hk.2 ?_)⟩⟩ (fun t ht => ?_) ?_ (fun k hk => ?_)
  · rw [fps_cons, fps_cons]; exact List.mem_append_right _ (List.mem_append_left _ (optL_iff.2 e))
  · rw [fps_cons, hp, ← e]; simp
  · rcases List.mem_cons.1 ht with rfl | ht
    · exact h0
    · rcases List.mem_cons.1 ht with rfl | ht
      · exact hown
      · exact hnw t ht
  · rw [fps_cons, fps_cons, hp']
    refine List.nodup_append.2 ⟨by simp, List.nodup_append.2 ⟨optL_nodup v', hnd, fun a ha b hb e => ?_⟩, fun a ha b hb e => ?_⟩
    · subst e; exact (hnl a hb).2 ha
    · rw [List.mem_singleton] at ha
      subst ha
      subst e
      rcases List.mem_append.1 hb with hb | hb
      · exact hpv' hb
      · have := (hnl a hb).1; omega
  · rw [fps_cons, fps_cons, hp'] at hk
    rw [fps_cons, fps_cons, hp]
    rcases List.mem_append.1 hk with hk | hk
    · exact .inl (List.mem_append_left _ hk)
    · rcases List.mem_append.1 hk with hk | hk
      · rcases hv' k hk with h1 | h1
        · exact .inl (List.mem_append_right _ (List.mem_append_left _ h1))
        · exact .inr h1
      · exact .inr (hnl k hk).1
/-- A track. -/
structure Trk where
  bg : Int
  fr : Int
  av : Value
  en : Int
  pv : Value
  cv : Value
  al : List Nat
  pl : List Nat
  cl : List Nat
def Trk.cells (t : Trk) : List Value := [.int .i64 t.bg, .int .i64 t.fr, t.av, .int .i64 t.en, t.pv, t.cv]
def trkCells (T : List Trk) : List Value := T.flatMap Trk.cells
def thA (b : Nat) (t : Trk) : Th := .row b 3 1 t.av t.al.length (numsV t.al)
def thQ (b : Nat) (t : Trk) : Th := .row b 3 1 t.pv t.pl.length (numsV t.pl)
def thC (b : Nat) (t : Trk) : Th := .row b 3 1 t.cv t.cl.length (numsV t.cl)
theorem trkCells_cons (t : Trk) (T : List Trk) : trkCells (t :: T) = .int .i64 t.bg :: .int .i64 t.fr :: t.av :: .int .i64 t.en :: t.pv :: t.cv :: trkCells T := rfl
theorem trkCells_len : ∀ T : List Trk, (trkCells T).length = T.length * 6
  | [] => rfl
  | x :: E => by rw [trkCells_cons]; simp only [List.length_cons, trkCells_len E]; omega
theorem trkCells_app (T : List Trk) (t : Trk) : trkCells (T ++ [t]) = trkCells T ++ t.cells := by
  unfold trkCells
  rw [List.flatMap_append]
  simp
theorem trkCells_get : ∀ {T : List Trk} {k : Nat} {t : Trk} {j : Nat}, T[k]? = some t → j < 6 → (trkCells T)[k * 6 + j]? = t.cells[j]?
  | [], _, _, _, h, _ => by simp at h
  | y :: E, 0, x, j, h, hj => by
    simp at h
    subst h
    rw [Nat.zero_mul, Nat.zero_add]
    show (y.cells ++ trkCells E)[j]? = _
    rw [List.getElem?_append_left (by simpa [Trk.cells] using hj)]
  | y :: E, k + 1, x, j, h, hj => by
    rw [List.getElem?_cons_succ] at h
    show (y.cells ++ trkCells E)[(k + 1) * 6 + j]? = _
    rw [List.getElem?_append_right (by simp [Trk.cells]; omega), show (k + 1) * 6 + j - y.cells.length = k * 6 + j by simp [Trk.cells]; omega]
    exact trkCells_get h hj
theorem trkCells_set : ∀ {T : List Trk} {k : Nat} {t t' : Trk} {j : Nat} {v : Value}, T[k]? = some t → j < 6 → t.cells.set j v = t'.cells → (trkCells T).set (k * 6 + j) v = trkCells (T.set k t')
  | [], _, _, _, _, _, h, _, _ => by simp at h
  | y :: E, 0, x, x', j, v, h, hj, he => by
    simp at h
    subst h
    rw [Nat.zero_mul, Nat.zero_add]
    show (y.cells ++ trkCells E).set j v = x'.cells ++ trkCells E
    rw [List.set_append_left _ _ (by simpa [Trk.cells] using hj), he]
  | y :: E, k + 1, x, x', j, v, h, hj, he => by
    rw [List.getElem?_cons_succ] at h
    show (y.cells ++ trkCells E).set ((k + 1) * 6 + j) v = y.cells ++ trkCells (E.set k x')
    rw [List.set_append_right _ _ (by simp [Trk.cells]; omega), show (k + 1) * 6 + j - y.cells.length = k * 6 + j by simp [Trk.cells]; omega, trkCells_set h hj he]
/-- What a book holds. -/
structure Bk where
  gx : Int
  gy : Int
  gs : Int
  W : Nat
  H : Nat
  lev : Int
  rch : Int
  last : Int
  p : Nat
  mb : Nat
  c : Nat
  mv : Value
  tv : Value
  kz : Nat → Int
  S : List Spr
  T : List Trk
  of : Nat × Nat → Option Nat
def bookC (gx gy gs : Int) (W H : Nat) (lev rch last : Int) (mv tv : Value) (mb : Nat) (kz : Nat → Int) : Array Value :=
  #[.int .i64 gx, .int .i64 gy, .int .i64 gs, .int .i64 (W : Nat), .int .i64 (H : Nat), .int .i64 lev, .int .i64 rch, .int .i64 last, mv, tv, .map (some mb), .int .i64 (kz 0), .int .i64 (kz 1), .int .i64 (kz 2), .int .i64 (kz 3), .int .i64 (kz 4), .int .i64 (kz 5), .int .i64 (kz 6), .int .i64 (kz 7)]
def updZ (kz : Nat → Int) (k : Nat) (z : Int) : Nat → Int := fun j => if j = k then z else kz j
theorem bookC_kind {gx gy gs : Int} {W H : Nat} {lev rch last : Int} {mv tv : Value} {mb : Nat} {kz : Nat → Int} {k : Nat} {z : Int} (hk : k < 8) : (bookC gx gy gs W H lev rch last mv tv mb kz).setIfInBounds (11 + k) (.int .i64 z) = bookC gx gy gs W H lev rch last mv tv mb (updZ kz k z) := by
  obtain rfl | rfl | rfl | rfl | rfl | rfl | rfl | rfl : k = 0 ∨ k = 1 ∨ k = 2 ∨ k = 3 ∨ k = 4 ∨ k = 5 ∨ k = 6 ∨ k = 7 := by omega
  all_goals rfl
theorem bookC_at {gx gy gs : Int} {W H : Nat} {lev rch last : Int} {mv tv : Value} {mb : Nat} {kz : Nat → Int} {k : Nat} (hk : k < 8) : (bookC gx gy gs W H lev rch last mv tv mb kz)[11 + k]? = some (.int .i64 (kz k)) := by
  obtain rfl | rfl | rfl | rfl | rfl | rfl | rfl | rfl : k = 0 ∨ k = 1 ∨ k = 2 ∨ k = 3 ∨ k = 4 ∨ k = 5 ∨ k = 6 ∨ k = 7 := by omega
  all_goals rfl
def Bk.cells (B : Bk) : Array Value := bookC B.gx B.gy B.gs B.W B.H B.lev B.rch B.last B.mv B.tv B.mb B.kz
def ofV (f : Nat × Nat → Option Nat) (x : Nat × Nat) : Option Value := (f x).map nmV
def putO (f : Nat × Nat → Option Nat) (s : Nat × Nat) (n : Nat) : Nat × Nat → Option Nat := fun x => if x = s then some n else f x
theorem ofV_put {f : Nat × Nat → Option Nat} {s : Nat × Nat} {n : Nat} : ofV (putO f s n) = putK (ofV f) s (nmV n) := by
  funext x
  unfold ofV putO putK
  by_cases e : x = s
  · rw [if_pos e, if_pos e]; rfl
  · rw [if_neg e, if_neg e]
def sprCells (gx gy gs : Int) (W H : Nat) (S : List Spr) : List Value := S.flatMap fun s => (spreadC gx gy gs W H (W * H) s).toList
/-- What lies in memory of a book. -/
def Bk.ts (B : Bk) (base : Nat) (R : List Th) : List Th :=
  .blk B.p 100 B.cells :: .row base 62 6 B.tv B.T.length (trkCells B.T) :: thK Try.prog 118 plL okPl B.mb (ofV B.of) B.c :: .row base 102 7 B.mv B.S.length (sprCells B.gx B.gy B.gs B.W B.H B.S) :: (B.T.map (thA base) ++ (B.T.map (thQ base) ++ (B.T.map (thC base) ++ R)))
theorem trackInfo : (Try.prog.info? 62).map (fun i => (i.zero, i.size, i.bytes)) = some (some (.agg #[.int .i64 0, .int .i64 0, .slice none 0 0, .int .i64 0, .slice none 0 0, .slice none 0 0]), 6, 96) := by kernel_rfl
theorem spreadInfo : (Try.prog.info? 102).map (fun i => (i.zero, i.size, i.bytes)) = some (some (.agg #[.int .i64 0, .int .i64 0, .int .i64 0, .int .i64 0, .int .i64 0, .slice none 0 0, .slice none 0 0]), 7, 88) := by kernel_rfl
end Go.Proofs.Ytidbjidcjmbnlaa
end
section
namespace Go.Proofs.Ytidbjidcjmbnlaa
open Go Go.RowKit
attribute [local go_sem] Oper.semAt_some

def newT (kind num : Int) (ar : Nat) (av pv : Value) (pl : List Nat) : Trk := ⟨kind, num, av, 0, pv, .slice none 0 0, [ar], pl, []⟩
theorem perm_begin {α : Type} (c a b ar d e : α) (A Q C : List α) (q : α) (R : List α) : (c :: a :: b :: ar :: d :: e :: (A ++ (Q ++ (C ++ (q :: R))))).Perm (a :: b :: d :: e :: ((A ++ [ar]) ++ ((Q ++ [q]) ++ ((C ++ [c]) ++ R)))) := by
  have h3 : (c :: (C ++ (q :: R))).Perm (q :: ((C ++ [c]) ++ R)) := by
    rw [List.append_assoc]
    refine ((List.perm_middle (l₁ := C) (a := q) (l₂ := R)).cons c).trans ((List.Perm.swap q c _).trans (.cons _ ?_))
    exact List.perm_middle.symm
  have h2 : (c :: (Q ++ (C ++ (q :: R)))).Perm ((Q ++ [q]) ++ ((C ++ [c]) ++ R)) := by
    rw [List.append_assoc]
    exact (List.perm_middle (l₁ := Q)).symm.trans (h3.append_left Q)
  have h1 : (c :: ar :: (A ++ (Q ++ (C ++ (q :: R))))).Perm ((A ++ [ar]) ++ ((Q ++ [q]) ++ ((C ++ [c]) ++ R))) := by
    rw [List.append_assoc]
    refine (List.Perm.swap ar c _).trans ((((List.perm_middle (l₁ := A) (a := c)).symm.trans (h2.append_left A)).cons ar).trans ?_)
    exact List.perm_middle.symm
  have h0 : (c :: a :: b :: ar :: d :: e :: (A ++ (Q ++ (C ++ (q :: R))))).Perm (a :: b :: d :: e :: c :: ar :: (A ++ (Q ++ (C ++ (q :: R))))) := by
    refine (List.perm_middle (l₁ := [a, b]) (a := c)).symm.trans (.cons _ (.cons _ ?_))
    refine (List.perm_middle (l₁ := [d, e]) (a := ar) (l₂ := _)).symm.cons c |>.trans ?_
    exact (List.perm_middle (l₁ := [d, e]) (a := c)).symm
  exact h0.trans (.cons _ (.cons _ (.cons _ (.cons _ h1))))
def BeginPost (B : Bk) (kind : Int) (num ar : Nat) (pv : Value) (pl : List Nat) (base : Nat) (w0 : World) (R : List Th) (e : Ending) (w' : World) : Prop :=
  e = .returned (.int .i64 (B.T.length : Nat)) ∧ ∃ tv' av c', c' ≤ B.c + 1 ∧ Mem w0 (({ B with tv := tv', c := c', T := B.T ++ [newT kind num ar av pv pl], of := putO B.of (num, ar) B.T.length } : Bk).ts base R) w'
set_option maxHeartbeats 4000000 in
set_option maxRecDepth 100000 in
theorem begin_any (B : Bk) (kind : Int) (num ar base : Nat) (pv : Value) (pl : List Nat) (w0 w : World) (R : List Th) (hb0 : base ≤ w0.heap.size) (hT : B.T.length ≤ 1000) (hc : B.c ≤ 1000000) (hnum : num ≤ 1000) (har : ar ≤ 1000)
    (hM : Mem w0 (B.ts base (.row base 3 1 pv pl.length (numsV pl) :: R)) w) :
    Calls Try.prog 61 #[.pointer (some ⟨B.p, 0, none⟩), .int .i64 kind, .agg #[.int .i64 (num : Nat), .int .i64 (ar : Nat)], pv] w (BeginPost B kind num ar pv pl base w0 R) := by
  obtain ⟨PP, hPP⟩ : ∃ PP, BeginPost B kind num ar pv pl base w0 R = PP := ⟨_, rfl⟩
  rw [hPP]
  obtain ⟨gx, gy, gs, W, H, lev, rch, last, p, mb, c, mv, tv, kz, S, T, of⟩ := B
  unfold Bk.ts Bk.cells at hM
  dsimp only at hM hT hc ⊢
  have hpv := hM.all (.row base 3 1 pv pl.length (numsV pl)) (by simp)
  obtain ⟨Ap, cp, rfl⟩ := own_shape2 (show w.ownsRow base 3 1 pv pl.length (numsV pl) from hpv)
  obtain ⟨At, ct, rfl⟩ := own_shape2 (hM.row_ 1 rfl)
  obtain ⟨n, hn⟩ : ∃ n, T.length = n := ⟨_, rfl⟩
  obtain ⟨m, hm⟩ : ∃ m, pl.length = m := ⟨_, rfl⟩
  rw [hn] at hT hM
  rw [hm] at hM
  simp only [hm]
  obtain ⟨RR, hRR⟩ : ∃ q : List Th, T.map (thA base) ++ (T.map (thQ base) ++ (T.map (thC base) ++ (.row base 3 1 (.slice Ap m cp) m (numsV pl) :: R))) = q := ⟨_, rfl⟩
  rw [hRR] at hM
  unfold bookC at hM
  obtain ⟨i0, hi0, hy0, hy1, hy2⟩ := info_parts trackInfo
  have HM := hide hM
  have HN := hide hn
  have HMm := hide hm
  have HRR := hide hRR
  have HPP := hide hPP
  have Hi := hide hi0
  have Hz0 := hide hy0
  have Hz1 := hide hy1
  have Hz2 := hide hy2
  clear hM hn hm hRR hPP hi0 hy0 hy1 hy2
  clear hpv
  go_enter Try.func61, Try.ntmps61
  go_upto_region 1 with fail
  refine code_world fun W1 hW => ?_
  have HMn := Mem.to (Mem.allocAt HM.out w.heap.size rfl #[.int .i64 (num : Nat), .int .i64 (ar : Nat)] 118) hW
  have LW : Later w W1 := by rw [hW]; exact ((Below.refl _ _).alloc (Nat.le_refl _) _)
  have szW : W1.heap.size = w.heap.size + 1 := by rw [hW]; simp
  clear hW
  replace HM := hide HMn
  clear HMn LW
  clear szW
  have b9 : W1.cell? ⟨p, 9, none⟩ = some (.slice At n ct) := (HM.out.blk_ 1 rfl).c 9 rfl
  have ltp := (HM.out.blk_ 1 rfl).lt
  go_upto_region 2 with fail
  have bq : Blk W1 w.heap.size 118 #[.int .i64 (num : Nat), .int .i64 (ar : Nat)] := HM.out.get 0 rfl
  have ltq := bq.lt
  have q0 := bq.c 0 rfl
  have q1 := bq.c 1 rfl
  have Hk := hide (HM.out.blk_ 1 rfl)
  have Htr := hide (HM.out.row_ 2 rfl)
  have hne1 : (Value.slice At n ct).ownBlock ≠ some p := fun e => HM.out.apart 1 2 rfl rfl (by decide) p (List.mem_singleton.2 rfl) (optL_iff.2 e)
  have hne0 : (Value.slice At n ct).ownBlock ≠ some w.heap.size := fun e => HM.out.apart 0 2 rfl rfl (by decide) _ (List.mem_singleton.2 rfl) (optL_iff.2 e)
  have HneT := hide hne1
  have hbw : base ≤ W1.heap.size := Nat.le_trans hb0 HM.out.size
  apply wp_region_FA (w0 := W1) [[], [], [1], [1, 2], [1, 2, 3], [], [], [6], [], [8], [8, 9], [], [5, 6, 7, 8, 9, 10, 11], [5, 6, 7, 8, 9, 10, 11, 12], [1, 2, 3, 4, 5, 6, 7, 8, 9, 10, 11, 12, 13], [0, 1, 2, 3, 4, 5, 6, 7, 8, 9, 10, 11, 12, 13, 14], [0, 1, 2, 3, 4, 5, 6, 7, 8, 9, 10, 11, 12, 13, 14, 15], [0, 1, 2, 3, 4, 5, 6, 7, 8, 9, 10, 11, 12, 13, 14, 15, 16]] [true, true, true, true, true, true, true, true, true, true, false, true, true, false, false, true, true, false] [false, false, false, false, false, false, false, false, false, false, false, false, false, false, false, false, false, false] [⟨10, none, [], []⟩, ⟨13, none, [], [10]⟩, ⟨14, none, [13], [10]⟩, ⟨17, none, [], [14]⟩] (fillQ 14 (.slice At n ct) 17 p) [17] (fun ixq y => match ixq with | 10 => .slice (y 0).1 1 1 | 13 => .slice (y 0).1 1 1 | 14 => .slice (y 0).1 (n + 1) (y 0).2 | 17 => undef | _ => undef) (fun ixq x F wq => match ixq with | 10 => OwnF wq F W1.heap.size 3 1 (.slice (x 10 0).1 1 1) 1 #[.int .i64 (ar : Nat)].toList | 13 => OwnF wq F W1.heap.size 62 6 (.slice (x 13 0).1 1 1) 1 #[.int .i64 kind, .int .i64 (num : Nat), .slice (x 10 0).1 1 1, .int .i64 0, .slice Ap m cp, .slice none 0 0].toList | 14 => OwnF wq F base 62 6 (.slice (x 14 0).1 (n + 1) (x 14 0).2) (n + 1) ((trkCells T) ++ (#[.int .i64 kind, .int .i64 (num : Nat), .slice (x 10 0).1 1 1, .int .i64 0, .slice Ap m cp, .slice none 0 0] : Array Value).toList) ∧ FreshOr W1.heap.size (.slice At n ct) (.slice (x 14 0).1 (n + 1) (x 14 0).2) | 17 => F p ∧ Blk wq p 100 #[.int .i64 gx, .int .i64 gy, .int .i64 gs, .int .i64 (W : Nat), .int .i64 (H : Nat), .int .i64 lev, .int .i64 rch, .int .i64 last, mv, .slice (x 14 0).1 (n + 1) (x 14 0).2, .map (some mb), .int .i64 (kz 0), .int .i64 (kz 1), .int .i64 (kz 2), .int .i64 (kz 3), .int .i64 (kz 4), .int .i64 (kz 5), .int .i64 (kz 6), .int .i64 (kz 7)] | _ => True) (fun a x => ((((a).put (some 25) (.slice ((x 10) 0).1 1 1)).put (some 28) (.slice ((x 13) 0).1 1 1)).put (some 29) (.slice ((x 14) 0).1 (n + 1) ((x 14) 0).2)).put (none) (undef)) (by kernel_rfl) (by kernel_rfl) (by kernel_rfl) (fun _ => rfl) [17, 30] (by kernel_rfl) (fillQ_lt (fun g hg => (Htr.out.lt g hg).2) (by omega)) (fillQ_ne HneT.out)
  · intro x D hD
    have hne := hD.some
    have k9 := liftS hD b9 (earlyQ (by first | assumption | omega) HneT.out)
    have q0 := liftS hD q0 (earlyQ (by first | assumption | omega) hne0)
    have q1 := liftS hD q1 (earlyQ (by first | assumption | omega) hne0)
    simp only [takeOps, Act.put, List.setIfInBounds_toArray, List.set_cons_succ, List.set_cons_zero]
    repeat (go_big_quiet_step (fail))
    exact wpQuiet_nil rfl
  · exact fun x D hD => wpQuiet_nil rfl
  · intro d hd x x'
    simp only [List.mem_cons, List.not_mem_nil, or_false] at hd
    rcases hd with rfl | rfl
    all_goals rfl
  · refine ⟨?_, ?_, ?_, ?_, trivial⟩
    · exact obl_new rfl (fun _ => by kernel_rfl) 3 (fun x => #[.int .i64 (ar : Nat)]) gP (fun x w => by kernel_rfl) (fun x w hle => own_new hle rfl (by unfold maxLen; omega))
    · exact obl_new rfl (fun _ => by kernel_rfl) 62 (fun x => #[.int .i64 kind, .int .i64 (num : Nat), .slice (x 10 0).1 1 1, .int .i64 0, .slice Ap m cp, .slice none 0 0]) gP (fun x w => by kernel_rfl) (fun x w hle => own_new hle rfl (by unfold maxLen; omega))
    · refine obl_pushX 55 19 28 (by kernel_rfl) base 62 i0 _ 6 96 Try.underlying55 Hi.out Hz0.out Hz1.out Hz2.out rfl (by decide) (.slice At n ct) n 1 ((trkCells T)) (fun x => (#[.int .i64 kind, .int .i64 (num : Nat), .slice (x 10 0).1 1 1, .int .i64 0, .slice Ap m cp, .slice none 0 0] : Array Value).toList) (fun x => by first | rfl | (simp; done) | (simp; omega)) (fun x => by simp [Value.oneCell']) (by unfold maxLen; omega) (by omega) (by first | assumption | omega) (fun x w F hk hn => ?_) (fun _ => rfl) (fun _ _ _ _ h1 h2 => ⟨h1, h2⟩)
      have hj : OwnF w (F 13) W1.heap.size 62 6 (.slice (x 13 0).1 1 1) 1 (#[.int .i64 kind, .int .i64 (num : Nat), .slice (x 10 0).1 1 1, .int .i64 0, .slice Ap m cp, .slice none 0 0] : Array Value).toList := hn 13 (by simp)
      obtain ⟨ad, hA, hc⟩ := news_own hj (by decide)
      exact ⟨ad, 1, rfl, row_thenQ Htr.out HneT.out hk, wrQ_row, (show Value.slice (x 13 0).1 1 1 = _ by rw [hA]), hc⟩
    · exact obl_setv 55 100 31 29 p 9 _ (fun x => .slice (x 14 0).1 (n + 1) (x 14 0).2) (fun x => #[.int .i64 gx, .int .i64 gy, .int .i64 gs, .int .i64 (W : Nat), .int .i64 (H : Nat), .int .i64 lev, .int .i64 rch, .int .i64 last, mv, .slice (x 14 0).1 (n + 1) (x 14 0).2, .map (some mb), .int .i64 (kz 0), .int .i64 (kz 1), .int .i64 (kz 2), .int .i64 (kz 3), .int .i64 (kz 4), .int .i64 (kz 5), .int .i64 (kz 6), .int .i64 (kz 7)]) (by kernel_rfl) (fun _ => rfl) (fun _ => rfl) (fun _ => rfl) Hk.out (ebQ_set HneT.out) wrQ_set (by kernel_rfl) (by first | assumption | (simp; done)) (fun _ => rfl) (fun _ => rfl) (fun _ _ _ _ h1 h2 => ⟨h1, h2⟩)
  · refine ⟨?_, ?_, ?_, ?_, trivial⟩
    · refine ⟨fun x F wq wq' h hs hk => ?_, fun x x' F wq hx h => ?_⟩
      · have h2 : OwnF wq F W1.heap.size 3 1 (.slice (x 10 0).1 1 1) 1 #[.int .i64 (ar : Nat)].toList := h
        exact h2.stab hk
      · have h2 : OwnF wq F W1.heap.size 3 1 (.slice (x 10 0).1 1 1) 1 #[.int .i64 (ar : Nat)].toList := h
        rw [hx 10 (by simp)] at h2
        exact h2
    · refine ⟨fun x F wq wq' h hs hk => ?_, fun x x' F wq hx h => ?_⟩
      · have h2 : OwnF wq F W1.heap.size 62 6 (.slice (x 13 0).1 1 1) 1 #[.int .i64 kind, .int .i64 (num : Nat), .slice (x 10 0).1 1 1, .int .i64 0, .slice Ap m cp, .slice none 0 0].toList := h
        exact h2.stab hk
      · have h2 : OwnF wq F W1.heap.size 62 6 (.slice (x 13 0).1 1 1) 1 #[.int .i64 kind, .int .i64 (num : Nat), .slice (x 10 0).1 1 1, .int .i64 0, .slice Ap m cp, .slice none 0 0].toList := h
        rw [hx 13 (by simp), hx 10 (by simp)] at h2
        exact h2
    · exact owe_pushX 14 _ base (.slice At n ct) 62 6 (n + 1) (fun x => ((trkCells T) ++ (#[.int .i64 kind, .int .i64 (num : Nat), .slice (x 10 0).1 1 1, .int .i64 0, .slice Ap m cp, .slice none 0 0] : Array Value).toList)) rfl (fun _ _ _ => rfl) (fun x x' hx => by simp only [hx 10 (by simp)])
    · exact owe_fill p 100 (fun x => #[.int .i64 gx, .int .i64 gy, .int .i64 gs, .int .i64 (W : Nat), .int .i64 (H : Nat), .int .i64 lev, .int .i64 rch, .int .i64 last, mv, .slice (x 14 0).1 (n + 1) (x 14 0).2, .map (some mb), .int .i64 (kz 0), .int .i64 (kz 1), .int .i64 (kz 2), .int .i64 (kz 3), .int .i64 (kz 4), .int .i64 (kz 5), .int .i64 (kz 6), .int .i64 (kz 7)]) (fun _ _ _ => rfl) (fun x x' hx => by simp only [hx 14 (by simp)])
  intro xx w2 F hK hlv1 hap1
  have apart10_14 : ∀ k, F 10 k → ¬ F 14 k := hap1 _ (List.mem_iff_getElem?.2 ⟨0, rfl⟩) _ (List.mem_iff_getElem?.2 ⟨2, rfl⟩) (by decide) (by intro t ht; simp only [List.mem_cons, List.not_mem_nil, or_false] at ht; rcases ht with rfl | rfl | rfl | rfl <;> simp) (by intro t ht; simp only [List.mem_cons, List.not_mem_nil, or_false] at ht; rcases ht with rfl | rfl | rfl | rfl <;> simp)
  clear hap1
  obtain ⟨fct10, -, fct14, fct17, -⟩ := hlv1
  replace fct10 : OwnF w2 (F 10) W1.heap.size 3 1 (.slice (xx 10 0).1 1 1) 1 #[.int .i64 (ar : Nat)].toList := fct10 rfl
  replace fct14 : OwnF w2 (F 14) base 62 6 (.slice (xx 14 0).1 (n + 1) (xx 14 0).2) (n + 1) ((trkCells T) ++ (#[.int .i64 kind, .int .i64 (num : Nat), .slice (xx 10 0).1 1 1, .int .i64 0, .slice Ap m cp, .slice none 0 0] : Array Value).toList) ∧ FreshOr W1.heap.size (.slice At n ct) (.slice (xx 14 0).1 (n + 1) (xx 14 0).2) := fct14 rfl
  replace fct17 : (F 17) p ∧ Blk w2 p 100 #[.int .i64 gx, .int .i64 gy, .int .i64 gs, .int .i64 (W : Nat), .int .i64 (H : Nat), .int .i64 lev, .int .i64 rch, .int .i64 last, mv, .slice (xx 14 0).1 (n + 1) (xx 14 0).2, .map (some mb), .int .i64 (kz 0), .int .i64 (kz 1), .int .i64 (kz 2), .int .i64 (kz 3), .int .i64 (kz 4), .int .i64 (kz 5), .int .i64 (kz 6), .int .i64 (kz 7)] := fct17 rfl
  obtain ⟨hot, hfr⟩ := fct14
  have hbk := fct17.2
  obtain ⟨hav, havF⟩ := fct10
  have hap : ∀ k, k ∈ optL (.slice (xx 10 0).1 1 1) → k ∉ optL (.slice (xx 14 0).1 (n + 1) (xx 14 0).2) := fun k h1 h2 => apart10_14 k (havF k (optL_iff.1 h1)) (hot.2 k (optL_iff.1 h2))
  have hot1 := hot.1
  generalize (xx 14 0).1 = A7 at *
  generalize (xx 14 0).2 = c7 at *
  generalize (xx 10 0).1 = Aa at *
  have hM2 := Mem.pushed (nw := [.row base 3 1 (.slice Aa 1 1) 1 (numsV [ar])]) (HM.out.perm (List.perm_middle (l₁ := [_, _])).symm) (t0' := .blk p 100 _) rfl rfl hK hot1 hfr hbk
    (fun t ht => by rw [List.mem_singleton.1 ht]; exact own_mono hav hbw) (by show (optL (.slice Aa 1 1) ++ []).Nodup; rw [List.append_nil]; exact optL_nodup _) (fun k hk => by
      rw [fps_cons] at hk
      have hk2 : k ∈ optL (.slice Aa 1 1) := by
        rcases List.mem_append.1 hk with h | h
        · exact h
        · cases h
      exact ⟨(hav.lt k (optL_iff.1 hk2)).1, hap k hk2⟩)
  replace HM := hide hM2
  have hsz := hM2.size
  clear hM2 hK hot hot1 hfr hbk hav havF hap apart10_14 fct17 b9 ltp bq ltq q0 q1 Hk Htr hne1 hne0 HneT hbw
  simp only [List.append_eq, List.cons_append, List.nil_append] at HM
  have b10 : w2.cell? ⟨p, 10, none⟩ = some (.map (some mb)) := (HM.out.blk_ 0 rfl).c 10 rfl
  have ltp := (HM.out.blk_ 0 rfl).lt
  have bq : Blk w2 w.heap.size 118 #[.int .i64 (num : Nat), .int .i64 (ar : Nat)] := HM.out.get 3 rfl
  have ltq := bq.lt
  have q0 := bq.c 0 rfl
  have q1 := bq.c 1 rfl
  go_wp2_with fail
  refine wp_region_cut 6 (by kernel_rfl) (by simp only [List.take_succ_cons, List.take_zero]; exact rfl) (by simp only [List.drop_succ_cons, List.drop_zero]; exact rfl) (by kernel_rfl) ?_
  apply any_region_J (w0 := w2) [[], [], [], [], [], []] [true, true, true, true, true, true] [] (fun ixq y => match ixq with  | _ => undef) (fun ixq x F wq => match ixq with  | _ => True) (fun a x => a) (by kernel_rfl) (fun _ => rfl) [33] (by kernel_rfl)
  · intro x D hD
    have hne := hD.some
    have k0 := liftB hD b10 (by first | assumption | omega)
    have k1 := liftB hD q0 (by first | assumption | omega)
    have k2 := liftB hD q1 (by first | assumption | omega)
    simp only [takeOps, Act.put, List.setIfInBounds_toArray, List.set_cons_succ, List.set_cons_zero]
    repeat (go_big_quiet_step (fail))
    exact wpQuiet_nil rfl
  · intro d hd x x'
    simp only [List.mem_cons, List.not_mem_nil, or_false] at hd
    rcases hd with rfl
    all_goals rfl
  · exact trivial
  · exact trivial
  intro xy w3 F hL hlv2 hap2
  clear hap2
  clear hlv2
  refine ⟨rfl, ?_⟩
  replace HM := hide (HM.out.later hL)
  clear hL bq ltq q0 q1
  clear b10 ltp
  have hmk := HM.out.map_ 4 rfl
  have HMK := hide hmk
  clear hmk
  have hokp : okPl (num, ar) := ⟨by omega, by omega⟩
  go_wp2_with (at_mapUpdate; refine wpList_storeK _ rfl _ _ _ _ rfl 118 3 plKey Try.underlying96 mb c (ofV of) rfl HMK.out (by unfold maxLen; omega) (num, ar) rfl hokp (nmV n) rfl ?_; intro w4 hm4 hg4)
  have hM4 := HM.out.mapK 4 rfl hm4 hg4
  simp only [List.set_cons_zero, List.set_cons_succ] at hM4
  rw [← ofV_put] at hM4
  rw [← HPP.out]
  refine ⟨by rw [HN.out]; rfl, .slice A7 (n + 1) c7, .slice Aa 1 1, (if (ofV of (num, ar)).isSome then c else c + 1), ?_, ?_⟩
  rotate_left
  · unfold Bk.ts Bk.cells bookC
    dsimp only
    rw [trkCells_app, List.length_append, List.length_singleton, HN.out, List.map_append, List.map_append, List.map_append]
    rw [← HRR.out, ← HMm.out] at hM4
    have h5 := hM4.drop 3 rfl
    simp only [List.eraseIdx_cons_succ, List.eraseIdx_cons_zero, List.eraseIdx_zero, List.tail_cons] at h5
    refine ((h5.nilRow base 3 1).perm (perm_begin _ _ _ _ _ _ _ _ _ _ _)).to ?_
    rfl
  · dsimp only
    split <;> omega
end Go.Proofs.Ytidbjidcjmbnlaa
end
