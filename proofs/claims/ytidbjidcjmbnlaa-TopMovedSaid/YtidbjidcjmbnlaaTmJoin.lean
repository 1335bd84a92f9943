/-
  Groups of areas: two are joined.
-/
import Derived.Test.YtidbjidcjmbnlaaTmLead
import Derived.Test.YtidbjidcjmbnlaaRegK
import Derived.Test.YtidbjidcjmbnlaaRegC
set_option linter.unusedSimpArgs false
set_option linter.unusedVariables false
namespace Go.Proofs.Ytidbjidcjmbnlaa
open Go Go.RowKit
attribute [local go_sem] Oper.semAt_some

def joinL (L : Nd → Nd) (x y : Nd) : Nd → Nd := fun z => if L z = L y then L x else L z
theorem Forest.okL {m : Nd → Option Nd} {L : Nd → Nd} {d : Nd → Nat} (h : Forest m L d) (hm : OkM m) : ∀ (n : Nat) (x : Nd), d x ≤ n → okNd x → okNd (L x)
  | n, x, hn, hx => by
    cases e : m x with
    | none => rw [(h.root x e).1]; exact hx
    | some y =>
      obtain ⟨h1, h2⟩ := h.step x y e
      cases n with
      | zero => omega
      | succ n => rw [h1]; exact h.okL hm n y (by omega) (hm x y e)
theorem joinL_same {L : Nd → Nd} {x y : Nd} (h : L x = L y) : joinL L x y = L := by
  funext z
  unfold joinL
  by_cases e : L z = L y
  · rw [if_pos e, h, e]
  · rw [if_neg e]
theorem fV_upd {m : Nd → Option Nd} {x y : Nd} : fV (updM m y x) = putK (fV m) y (ndV x) := by
  funext z
  unfold fV updM putK
  by_cases e : z = y
  · rw [if_pos e, if_pos e]; rfl
  · rw [if_neg e, if_neg e]
theorem OkM.upd {m : Nd → Option Nd} (h : OkM m) {x y : Nd} (hx : okNd x) : OkM (updM m y x) := fun z v hz => by
  unfold updM at hz
  split at hz
  · cases hz; exact hx
  · exact h z v hz
def JoinPost (L : Nd → Nd) (x y : Nd) (b c : Nat) (w0 : World) (ts : List Th) (e : Ending) (w' : World) : Prop :=
  e = .returned (.tuple #[]) ∧ ∃ m' d' c', Forest m' (joinL L x y) d' ∧ OkM m' ∧ c' ≤ c + 1 ∧ Mem w0 (thK Try.prog 142 ndL okNd b (fV m') c' :: ts) w'
set_option maxHeartbeats 1000000 in
set_option maxRecDepth 100000 in
theorem join_any (m : Nd → Option Nd) (L : Nd → Nd) (d : Nd → Nat) (b c : Nat) (x y : Nd) (w0 w : World) (ts : List Th) (hF : Forest m L d) (hx : okNd x) (hy : okNd y) (hm : OkM m) (hc : c ≤ 1000000) (hM : Mem w0 (thK Try.prog 142 ndL okNd b (fV m) c :: ts) w) :
    Calls Try.prog 57 #[.agg #[.map (some b)], ndV x, ndV y] w (JoinPost L x y b c w0 ts) := by
  have hl := fun W (z : Nd) (hz : okNd z) (hk : MapK W Try.prog 142 ndL okNd b (fV m) c) => lead_any m L d b c z W hF hz hm hk
  have ox := hF.okL hm (d x) x (Nat.le_refl _) hx
  have oy := hF.okL hm (d y) y (Nat.le_refl _) hy
  have rx := hF.lead (d x) x (Nat.le_refl _)
  have ry := hF.lead (d y) y (Nat.le_refl _)
  have hpost : ∀ e w', e = .returned (.tuple #[]) → (L x = L y → Mem w0 (thK Try.prog 142 ndL okNd b (fV m) c :: ts) w') → (L x ≠ L y → Mem w0 (thK Try.prog 142 ndL okNd b (putK (fV m) (L y) (ndV (L x))) (if (fV m (L y)).isSome then c else c + 1) :: ts) w') → JoinPost L x y b c w0 ts e w' := by
    intro e w' he h1 h2
    refine ⟨he, ?_⟩
    by_cases hxy : L x = L y
    · exact ⟨m, d, c, by rw [joinL_same hxy]; exact hF, hm, by omega, h1 hxy⟩
    · refine ⟨updM m (L y) (L x), _, _, hF.join rx ry hxy, hm.upd ox, ?_, by rw [fV_upd]; exact h2 hxy⟩
      split <;> omega
  have hlx := fun W hk => hl W x hx hk
  have hly := fun W hk => hl W y hy hk
  clear hl rx ry
  generalize L x = lx at *
  generalize L y = ly at *
  obtain ⟨x1, x2⟩ := x
  obtain ⟨y1, y2⟩ := y
  obtain ⟨u1, u2⟩ := lx
  obtain ⟨v1, v2⟩ := ly
  obtain ⟨PP, hPP⟩ : ∃ PP, JoinPost L (x1, x2) (y1, y2) b c w0 ts = PP := ⟨_, rfl⟩
  rw [hPP] at hpost ⊢
  unfold ndV at hlx hly ⊢
  dsimp only at hlx hly
  have HLX := hide hlx
  have HLY := hide hly
  have OX := hide ox
  have OY := hide oy
  have HPO := hide hpost
  have HMm := hide hm
  have HF := hide hF
  clear hlx hly ox oy hpost hm hF
  clear hx hy hPP
  go_enter Try.func57, Try.ntmps57
  have HM := hide hM
  clear hM
  go_wp2_with fail
  refine code_world fun W1 hW => ?_
  have HMn := Mem.to (Mem.allocAt (Mem.allocAt (Mem.allocAt HM.out w.heap.size rfl #[.map (some b)] 139) (w.heap.size + 1) (by simp) #[.bool x1, .int .i64 (x2 : Nat)] 142) (w.heap.size + 2) (by simp) #[.bool y1, .int .i64 (y2 : Nat)] 142) hW
  have LW : Later w W1 := by rw [hW]; exact ((((Below.refl _ _).alloc (Nat.le_refl _) _).alloc (by simp; try omega) _).alloc (by simp; try omega) _)
  have szW : W1.heap.size = w.heap.size + 3 := by rw [hW]; simp
  clear hW
  replace HM := hide HMn
  clear HMn LW
  clear szW
  have hk1 := fun W (hB : Below W1.heap.size W1 W) => (HM.out.map_ 3 rfl).stab (hB.block b (HM.out.map_ 3 rfl).lt)
  have HK1 := hide hk1
  clear hk1
  have bg : Blk W1 w.heap.size 139 #[.map (some b)] := HM.out.get 2 rfl
  have ltg := bg.lt
  have g0 := bg.c 0 rfl
  have bp : Blk W1 (w.heap.size + 1) 142 #[.bool x1, .int .i64 (x2 : Nat)] := HM.out.get 1 rfl
  have ltp := bp.lt
  have p0 := bp.c 0 rfl
  have p1 := bp.c 1 rfl
  have bq : Blk W1 (w.heap.size + 1 + 1) 142 #[.bool y1, .int .i64 (y2 : Nat)] := HM.out.get 0 rfl
  have ltq := bq.lt
  have q0 := bq.c 0 rfl
  have q1 := bq.c 1 rfl
  go_wp2_with fail
  refine wp_region_cut 6 (by kernel_rfl) (by simp only [List.take_succ_cons, List.take_zero]; exact rfl) (by simp only [List.drop_succ_cons, List.drop_zero]; exact rfl) (by kernel_rfl) ?_
  apply any_region_J (w0 := W1) [[], [], [], [], [], []] [true, true, true, true, true, true] [] (fun ixq y => match ixq with  | _ => undef) (fun ixq x F wq => match ixq with  | _ => True) (fun a x => a) (by kernel_rfl) (fun _ => rfl) [8, 11] (by kernel_rfl)
  · intro x D hD
    have hne := hD.some
    have k0 := liftB hD g0 (by first | assumption | omega)
    have k1 := liftB hD p0 (by first | assumption | omega)
    have k2 := liftB hD p1 (by first | assumption | omega)
    have k3 := liftB hD q0 (by first | assumption | omega)
    have k4 := liftB hD q1 (by first | assumption | omega)
    simp only [takeOps, Act.put, List.setIfInBounds_toArray, List.set_cons_succ, List.set_cons_zero]
    repeat (go_big_quiet_step ((go_at_call 59; first | with_reducible exact calls_later hD _ (HLX.out _ (HK1.out _ (kb hD _))) | with_reducible exact calls_later hD _ (HLY.out _ (HK1.out _ (kb hD _))))))
    exact wpQuiet_nil rfl
  · intro d hd x x'
    simp only [List.mem_cons, List.not_mem_nil, or_false] at hd
    rcases hd with rfl | rfl
    all_goals rfl
  · exact trivial
  · exact trivial
  intro xx w2 F hL hlv1 hap1
  clear hap1
  clear hlv1
  refine ⟨rfl, ?_⟩
  replace HM := hide (HM.out.later hL)
  clear hL bg ltg g0 bp ltp p0 p1 bq ltq q0 q1
  have bg : Blk w2 w.heap.size 139 #[.map (some b)] := HM.out.get 2 rfl
  have ltg := bg.lt
  have g0 := bg.c 0 rfl
  have bp : Blk w2 (w.heap.size + 1) 142 #[.bool x1, .int .i64 (x2 : Nat)] := HM.out.get 1 rfl
  have ltp := bp.lt
  have p0 := bp.c 0 rfl
  have fp0 := bp.frozen 0
  have p1 := bp.c 1 rfl
  have fp1 := bp.frozen 1
  have bq : Blk w2 (w.heap.size + 1 + 1) 142 #[.bool y1, .int .i64 (y2 : Nat)] := HM.out.get 0 rfl
  have ltq := bq.lt
  have q0 := bq.c 0 rfl
  have fq0 := bq.frozen 0
  have q1 := bq.c 1 rfl
  have fq1 := bq.frozen 1
  go_upto_region 2 with fail
  refine code_world fun w7 hw7 => ?_
  have HM7 := hide (Mem.to ((((HM.out.set_ 1 rfl 0 (.bool u1) (cs' := #[.bool u1, .int .i64 (x2 : Nat)]) rfl).set_ 1 rfl 1 (.int .i64 (u2 : Nat)) (cs' := #[.bool u1, .int .i64 (u2 : Nat)]) rfl).set_ 0 rfl 0 (.bool v1) (cs' := #[.bool v1, .int .i64 (y2 : Nat)]) rfl).set_ 0 rfl 1 (.int .i64 (v2 : Nat)) (cs' := #[.bool v1, .int .i64 (v2 : Nat)]) rfl) hw7)
  clear HM hw7 g0 ltg bg p0 p1 fp0 fp1 ltp bp q0 q1 fq0 fq1 ltq bq HK1
  have HM := HM7
  clear HM7
  simp only [List.set_cons_zero, List.set_cons_succ] at HM
  have bg : Blk w7 w.heap.size 139 #[.map (some b)] := HM.out.get 2 rfl
  have ltg := bg.lt
  have g0 := bg.c 0 rfl
  have bp : Blk w7 (w.heap.size + 1) 142 #[.bool u1, .int .i64 (u2 : Nat)] := HM.out.get 1 rfl
  have ltp := bp.lt
  have p0 := bp.c 0 rfl
  have p1 := bp.c 1 rfl
  have bq : Blk w7 (w.heap.size + 1 + 1) 142 #[.bool v1, .int .i64 (v2 : Nat)] := HM.out.get 0 rfl
  have ltq := bq.lt
  have q0 := bq.c 0 rfl
  have q1 := bq.c 1 rfl
  by_cases h1 : u1 = v1
  · subst h1
    by_cases h2 : (u2 : Int) = v2
    · obtain rfl : u2 = v2 := by omega
      go_wp2
      refine bodyPost_ret (v := .tuple #[]) (by simp [results, Try.results57, go_sem]) rfl ?_
      exact HPO.out _ _ rfl (fun _ => ((HM.out.drop 0 rfl).drop 0 rfl).drop 0 rfl) (fun h => absurd rfl h)
    · have hmk := HM.out.map_ 3 rfl
      go_wp2_with (at_mapUpdate; refine wpList_storeK _ rfl _ _ _ _ rfl 142 142 ndKey Try.underlying137 b c (fV m) rfl hmk (by unfold maxLen; omega) (u1, v2) rfl OY.out (ndV (u1, u2)) rfl ?_; intro w8 hm8 hg8)
      refine bodyPost_ret (v := .tuple #[]) (by simp [results, Try.results57, go_sem]) rfl ?_
      exact HPO.out _ _ rfl (fun h => absurd (congrArg (fun q : Nd => ((q.2 : Nat) : Int)) h) h2) (fun _ => (((HM.out.mapK 3 rfl hm8 hg8).drop 0 rfl).drop 0 rfl).drop 0 rfl)
  · have hmk := HM.out.map_ 3 rfl
    go_wp2_with (at_mapUpdate; refine wpList_storeK _ rfl _ _ _ _ rfl 142 142 ndKey Try.underlying137 b c (fV m) rfl hmk (by unfold maxLen; omega) (v1, v2) rfl OY.out (ndV (u1, u2)) rfl ?_; intro w8 hm8 hg8)
    refine bodyPost_ret (v := .tuple #[]) (by simp [results, Try.results57, go_sem]) rfl ?_
    exact HPO.out _ _ rfl (fun h => absurd (congrArg (fun q : Nd => q.1) h) h1) (fun _ => (((HM.out.mapK 3 rfl hm8 hg8).drop 0 rfl).drop 0 rfl).drop 0 rfl)
end Go.Proofs.Ytidbjidcjmbnlaa
