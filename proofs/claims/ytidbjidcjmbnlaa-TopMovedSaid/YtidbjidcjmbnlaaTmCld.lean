/-
  The cloud of an area.
  Clouds that can be asked for pixels: shaped, come, or, number.
  The sources of a pixel: the function that yields them is made.
  The sources of a pixel: the iterator's contract.
  Flows that fit a move let it come; plain words.
  Clouds and shapes as they lie in memory.
-/
import Derived.Test.YtidbjidcjmbnlaaTmKeys
import Derived.Test.YtidbjidcjmbnlaaTmGrow
import Derived.Test.YtidbjidcjmbnlaaTmCloud
import Derived.Test.YtidbjidcjmbnlaaTmCount
import Derived.Test.YtidbjidcjmbnlaaRangeF
import Derived.Deep.LoopGhost
import Derived.Sort.CutIn
set_option linter.unusedSimpArgs false
set_option linter.unusedVariables false
section
namespace Go.Proofs.Ytidbjidcjmbnlaa
open Go Go.RowKit
attribute [local go_sem] Oper.semAt_some

def SetRg (i B : Nat) (L : List Nat) (x : Nat → Par) (F : Nat → Prop) (w : World) : Prop := ∃ c, c ≤ L.length ∧ MapK w Try.prog 3 izL okI (x i 0).2 (setF L) c ∧ F (x i 0).2 ∧ B ≤ (x i 0).2
theorem SetRg.owe {i B : Nat} {L : List Nat} : (∀ x F w w', SetRg i B L x F w → w.heap.size ≤ w'.heap.size → (∀ k, F k → w'.heap[k]? = w.heap[k]?) → SetRg i B L x F w') ∧ (∀ (x x' : Nat → Par) F w, (x i = x' i) → SetRg i B L x F w → SetRg i B L x' F w) :=
  ⟨fun x F w w' h _ hk => by obtain ⟨c, a, b, d, e⟩ := h; exact ⟨c, a, b.stab (hk _ d), d, e⟩, fun x x' F w hx h => by obtain ⟨c, a, b, d, e⟩ := h; rw [hx] at b d e; exact ⟨c, a, b, d, e⟩⟩
def SrtRg (i B : Nat) (L : List Nat) (x : Nat → Par) (F : Nat → Prop) (w : World) : Prop := ∃ sl : List Nat, sl.length = (x i 1).2 ∧ sl.Pairwise (· < ·) ∧ (∀ p, p ∈ sl ↔ p ∈ L) ∧ OwnF w F B 3 1 (.slice (x i 0).1 (x i 1).2 (x i 0).2) (x i 1).2 (numsV sl)
theorem SrtRg.owe {i B : Nat} {L : List Nat} : (∀ x F w w', SrtRg i B L x F w → w.heap.size ≤ w'.heap.size → (∀ k, F k → w'.heap[k]? = w.heap[k]?) → SrtRg i B L x F w') ∧ (∀ (x x' : Nat → Par) F w, (x i = x' i) → SrtRg i B L x F w → SrtRg i B L x' F w) :=
  ⟨fun x F w w' h _ hk => by obtain ⟨c, a, b, d, e⟩ := h; exact ⟨c, a, b, d, e.stab hk⟩, fun x x' F w hx h => by obtain ⟨c, a, b, d, e⟩ := h; rw [hx] at a e; exact ⟨c, a, b, d, e⟩⟩
theorem rise_len {N : Nat} : ∀ (l : List Nat) (a : Nat), (a :: l).Pairwise (· < ·) → (∀ x ∈ l, x < N) → a < N → a + l.length + 1 ≤ N
  | [], a, _, _, h => by simp; omega
  | b :: l, a, hp, hx, h => by
    rw [List.pairwise_cons] at hp
    have h1 := hp.1 b List.mem_cons_self
    have h2 := rise_len l b hp.2 (fun x hm => hx x (List.mem_cons_of_mem _ hm)) (hx b List.mem_cons_self)
    rw [List.length_cons]
    omega
theorem rise_le {N : Nat} {l : List Nat} (h : l.Pairwise (· < ·)) (hx : ∀ x ∈ l, x < N) : l.length ≤ N := by
  cases l with
  | nil => exact Nat.zero_le _
  | cons a l =>
    have := rise_len l a h (fun x hm => hx x (List.mem_cons_of_mem _ hm)) (hx a List.mem_cons_self)
    rw [List.length_cons]
    omega
def COfPost (kl : List (Value × List Nat)) (ml : List Nat) (xd xu yd yu : Int) (w : World) (e : Ending) (w' : World) : Prop := ∃ As Am ns cs nm cm sl, e = .returned (.tuple #[.agg (cloudC As Am ns cs nm cm xd xu yd yu), .int .i64 0]) ∧ Below w.heap.size w w' ∧ sl.length = ns ∧ ml.length = nm ∧ sl.Pairwise (· < ·) ∧ (∀ p, p ∈ sl ↔ p ∈ kl.flatMap (·.2)) ∧ w'.ownsRow w.heap.size 3 1 (.slice As ns cs) ns (numsV sl) ∧ w'.ownsRow w.heap.size 3 1 (.slice Am nm cm) nm (numsV ml)
set_option maxHeartbeats 4000000 in
set_option maxRecDepth 100000 in
theorem COf_ok (gx gy gs : Int) (W H N base m nk ck np cp : Nat) (Ak Ap : Option Addr) (x0 x1 y0 y1 s0 s1 xd xu yd yu : Int) (kl : List (Value × List Nat)) (ml : List Nat) (w : World) (he : gridE gx gy gs W H = 0) (hN : N = W * H) (hN64 : N ≤ 64) (hW64 : W ≤ 64) (hH64 : H ≤ 64) (hfx : insB xd xu (-100000) 100000 = true) (hfy : insB yd yu (-100000) 100000 = true)
    (hk : w.ownsRow base 33 1 (.slice Ak nk ck) nk (kl.map (fun x : Value × List Nat => x.1))) (hnk : kl.length = nk) (hnk6 : nk ≤ 64) (hr : ∀ y ∈ kl, w.ownsRow base 3 1 y.1 y.2.length (numsV y.2)) (hm64 : ∀ y ∈ kl, y.2.length ≤ 64)
    (hp : w.ownsRow base 3 1 (.slice Ap np cp) np (numsV ml)) (hnp : ml.length = np) (hnp0 : 1 ≤ np) (hnp6 : np ≤ 64) (hmN : ∀ p ∈ ml, p < N) (hmr : ml.Pairwise (· < ·)) (hkm : ∀ p ∈ kl.flatMap (·.2), p ∈ ml) :
    Calls Try.prog 20 #[.agg #[.int .i64 gx, .int .i64 gy, .int .i64 gs, .int .i64 (W : Nat), .int .i64 (H : Nat)], .agg #[.slice Ap np cp, .slice Ak nk ck, .int .i64 x0, .int .i64 x1, .int .i64 y0, .int .i64 y1, .int .i64 s0, .int .i64 s1], .agg #[.int .i64 xd, .int .i64 xu, .int .i64 yd, .int .i64 yu], .int .i64 0] w (COfPost kl ml xd xu yd yu w) := by
  obtain ⟨PP, hPP⟩ : ∃ PP, COfPost kl ml xd xu yd yu w = PP := ⟨_, rfl⟩
  rw [hPP]
  obtain ⟨L, hL0⟩ : ∃ L, kl.flatMap (·.2) = L := ⟨_, rfl⟩
  have hLn : L.length ≤ 10000 := by
    rw [← hL0]
    have h := catL_len (kl := kl) (k := nk) hm64
    unfold catL at h
    rw [List.take_of_length_le (Nat.le_of_eq hnk)] at h
    have h2 : nk * 64 ≤ 64 * 64 := Nat.mul_le_mul hnk6 (Nat.le_refl _)
    omega
  have hL6 : ∀ p ∈ L, p ≤ 1000000 := fun p hp' => by have := hmN p (hkm p (by rw [hL0]; exact hp')); omega
  have hkm2 : ∀ p ∈ L, p ∈ ml := fun p hp' => hkm p (by rw [hL0]; exact hp')
  have hcc := fun V (hB : Below w.heap.size w V) => Concat_any base nk ck 64 Ak kl V hnk (by omega) hm64 (by omega) (own_belowT hk hB) (fun y hy => own_belowT (hr y hy) hB)
  rw [hL0] at hcc
  unfold ConcPost at hcc
  have hset := fun V b (v : Value) (h : V.ownsRow b 3 1 v L.length (numsV L)) => set_any b v L V h hLn hL6
  unfold SetPost at hset
  have hsrt := fun V Bm b c hBm hc hm (hc6 : c ≤ 1000000) => sorted_any Bm b c L V hBm hc hm hc6 hL6
  have hcl := fun V (hB : Below w.heap.size w V) => clone_row (own_belowT hp hB) (by omega) nums_one
  have hchk := fun V As Am ns cs nm cm (sl : List Nat) (hs : V.ownsRow w.heap.size 3 1 (.slice As ns cs) ns (numsV sl)) (hm : V.ownsRow w.heap.size 3 1 (.slice Am nm cm) nm (numsV ml)) hns hnm hm0 hsr hsm hnmN hnsN => CheckCloud_ok gx gy gs W H N w.heap.size As Am ns cs nm cm xd xu yd yu sl ml V he hN (by omega) hW64 hH64 hfx hfy hs hm hns hnm hm0 hmN hmr hsr hsm hnmN hnsN
  unfold cloudC at hchk
  have HCC := hide hcc
  have HSET := hide hset
  have HSRT := hide hsrt
  have HCL := hide hcl
  have HCHK := hide hchk
  have HPP := hide hPP
  have HL0 := hide hL0
  have HKM := hide hkm2
  have HMN := hide hmN
  have HNP := hide hnp
  clear hcc hset hsrt hcl hchk hPP hL0 hkm2 hmN hnp
  clear he hN hfx hfy hk hr hm64 hp hmr hkm hnk hL6 hW64 hH64
  go_enter Try.func20, Try.ntmps20
  have HM := hide (Mem.start w)
  go_upto_region 1 with fail
  refine code_world fun W1 hW => ?_
  have HMn := Mem.to (Mem.allocAt (Mem.allocAt (Mem.allocAt (Mem.allocAt HM.out w.heap.size rfl #[.int .i64 gx, .int .i64 gy, .int .i64 gs, .int .i64 (W : Nat), .int .i64 (H : Nat)] 28) (w.heap.size + 1) (by simp) #[.slice Ap np cp, .slice Ak nk ck, .int .i64 x0, .int .i64 x1, .int .i64 y0, .int .i64 y1, .int .i64 s0, .int .i64 s1] 81) (w.heap.size + 2) (by simp) #[.int .i64 xd, .int .i64 xu, .int .i64 yd, .int .i64 yu] 72) (w.heap.size + 3) (by simp) #[.slice none 0 0, .slice none 0 0, .int .i64 0, .int .i64 0, .int .i64 0, .int .i64 0, .int .i64 0] 76) hW
  have LW : Later w W1 := by rw [hW]; exact (((((Below.refl _ _).alloc (Nat.le_refl _) _).alloc (by simp; try omega) _).alloc (by simp; try omega) _).alloc (by simp; try omega) _)
  have szW : W1.heap.size = w.heap.size + 4 := by rw [hW]; simp
  clear hW
  replace HM := hide HMn
  clear HMn LW
  clear szW
  obtain ⟨pG, hpG⟩ : ∃ q, w.heap.size = q := ⟨_, rfl⟩
  obtain ⟨pA, hpA⟩ : ∃ q, pG + 1 = q := ⟨_, rfl⟩
  obtain ⟨pF, hpF⟩ : ∃ q, pA + 1 = q := ⟨_, rfl⟩
  obtain ⟨pR, hpR⟩ : ∃ q, pF + 1 = q := ⟨_, rfl⟩
  rw [show w.heap.size + 3 = pR by omega, show w.heap.size + 2 = pF by omega, show w.heap.size + 1 = pA by omega, hpG] at HM
  simp only [hpG, hpA, hpF, hpR]
  have HPG := hide hpG
  clear hpA hpF hpR hpG
  have ba : Blk W1 pA 81 #[.slice Ap np cp, .slice Ak nk ck, .int .i64 x0, .int .i64 x1, .int .i64 y0, .int .i64 y1, .int .i64 s0, .int .i64 s1] := HM.out.get 2 rfl
  have lta := ba.lt
  have a0 := ba.c 0 rfl
  have a1 := ba.c 1 rfl
  have a2 := ba.c 2 rfl
  have a3 := ba.c 3 rfl
  have a4 := ba.c 4 rfl
  have a5 := ba.c 5 rfl
  have a6 := ba.c 6 rfl
  have a7 := ba.c 7 rfl
  have bf : Blk W1 pF 72 #[.int .i64 xd, .int .i64 xu, .int .i64 yd, .int .i64 yu] := HM.out.get 1 rfl
  have ltf := bf.lt
  have f0 := bf.c 0 rfl
  have f1 := bf.c 1 rfl
  have f2 := bf.c 2 rfl
  have f3 := bf.c 3 rfl
  go_wp2_with fail
  apply wp_region_L (w0 := W1) [[], [], [], [2], [2, 3], [2, 3, 4], [], [], [2, 3, 4, 5], [], [], [2, 3, 4, 5, 8], [], [2, 3, 4, 5, 8, 12]] [true, true, false, false, false, false, true, true, false, true, true, true, false, false] [⟨2, none, [], []⟩, ⟨3, none, [2], [2]⟩, ⟨4, none, [3], [3]⟩, ⟨5, none, [3, 4], [3, 4]⟩, ⟨8, none, [], []⟩, ⟨12, none, [], []⟩, ⟨13, some 12, [12], [5, 8, 12]⟩] (fun ixq y => match ixq with | 2 => .slice (y 0).1 L.length (y 0).2 | 3 => .map (some (y 0).2) | 4 => .func (.func 69) #[] #[.pointer (y 0).1] | 5 => .slice (y 0).1 (y 1).2 (y 0).2 | 8 => .slice (y 0).1 np (y 0).2 | 12 => .pointer (y 0).1 | 13 => undef | _ => undef) (fun ixq x F wq => match ixq with | 2 => OwnF wq F W1.heap.size 3 1 (.slice (x 2 0).1 L.length (x 2 0).2) L.length (numsV L) | 3 => SetRg 3 W1.heap.size L x F wq | 4 => PtrF wq F W1.heap.size (x 4 0).1 85 #[.map (some (x 3 0).2)] | 5 => SrtRg 5 W1.heap.size L x F wq | 8 => OwnF wq F W1.heap.size 3 1 (.slice (x 8 0).1 np (x 8 0).2) np (numsV ml) | 12 => PtrF wq F W1.heap.size (x 12 0).1 76 #[.slice none 0 0, .slice none 0 0, .int .i64 0, .int .i64 0, .int .i64 0, .int .i64 0, .int .i64 0] | 13 => PtrF wq F W1.heap.size (x 12 0).1 76 #[.slice (x 5 0).1 (x 5 1).2 (x 5 0).2, .slice (x 8 0).1 np (x 8 0).2, .int .i64 xd, .int .i64 xu, .int .i64 yd, .int .i64 yu, .int .i64 0] | _ => True) (fun a x => (((((((a).put (some 14) (.slice ((x 2) 0).1 L.length ((x 2) 0).2)).put (some 15) (.map (some ((x 3) 0).2))).put (some 16) (.func (.func 69) #[] #[.pointer ((x 4) 0).1])).put (some 17) (.slice ((x 5) 0).1 ((x 5) 1).2 ((x 5) 0).2)).put (some 20) (.slice ((x 8) 0).1 np ((x 8) 0).2)).put (some 10) (.pointer ((x 12) 0).1)).put (none) (undef)) (by kernel_rfl) (by kernel_rfl) (fun x => putH_step (some 14) (.slice ((x 2) 0).1 L.length ((x 2) 0).2) rfl rfl <| putH_step (some 15) (.map (some ((x 3) 0).2)) rfl rfl <| putH_step (some 16) (.func (.func 69) #[] #[.pointer ((x 4) 0).1]) rfl rfl <| putH_step (some 17) (.slice ((x 5) 0).1 ((x 5) 1).2 ((x 5) 0).2) rfl rfl <| putH_step (some 20) (.slice ((x 8) 0).1 np ((x 8) 0).2) rfl rfl <| putH_step (some 10) (.pointer ((x 12) 0).1) rfl rfl <| putH_step (none) (undef) rfl rfl <| putH_end) [] (by kernel_rfl)
  · intro x D hD
    have hne := hD.some
    have k0 := liftB hD a0 (by first | assumption | omega)
    have k1 := liftB hD a1 (by first | assumption | omega)
    have k2 := liftB hD f0 (by first | assumption | omega)
    have k3 := liftB hD f1 (by first | assumption | omega)
    have k4 := liftB hD f2 (by first | assumption | omega)
    have k5 := liftB hD f3 (by first | assumption | omega)
    simp only [takeOps, Act.put, List.setIfInBounds_toArray, List.set_cons_succ, List.set_cons_zero]
    repeat (go_big_quiet_step (fail))
    exact wpQuiet_nil rfl
  · exact fun _ h => absurd h (by simp)
  · refine ⟨?_, ?_, ?_, ?_, ?_, ?_, ?_, trivial⟩
    · refine obl_callL rfl (fun _ => by kernel_rfl) 52 (fun x => #[.slice Ak nk ck]) (fun x w => by kernel_rfl) ?_
      intro x w F hL hN
      refine (HCC.out w (onward HM.out.below hL)).mono ?_
      rintro e w' ⟨v, rfl, hb, hown⟩
      obtain ⟨A, cq, rfl⟩ := own_shape2 hown
      exact ⟨fun _ => (A, cq), rfl, hb, own_mono hown hL.size, fun g hg => hown.lt g hg⟩
    · refine obl_callL rfl (fun _ => by kernel_rfl) 51 (fun x => #[.slice (x 2 0).1 L.length (x 2 0).2]) (fun x w => by kernel_rfl) ?_
      intro x w F hL hN
      have n2 := hN 2 (by simp)
      refine (HSET.out w _ _ n2.1).mono ?_
      rintro e w' ⟨g, c, rfl, hc, hMs⟩
      have hmk := hMs.map_ 0 rfl
      have hlow := hMs.low g (by simp [fps, Th.fp, thK])
      exact ⟨fun _ => (none, g), rfl, hMs.below, c, hc, hmk, ⟨hlow, hmk.lt⟩, Nat.le_trans hL.size hlow⟩
    · refine obl_callL rfl (fun _ => by kernel_rfl) 50 (fun x => #[.map (some (x 3 0).2)]) (fun x w => by kernel_rfl) ?_
      intro x w F hL hN
      have n3 := hN 3 (by simp)
      refine (keys_any (x 3 0).2 w).mono ?_
      rintro e w' ⟨rfl, rfl⟩
      exact ⟨fun _ => (some ⟨w.heap.size, 0, none⟩, 0), rfl, (Below.refl _ w).alloc (Nat.le_refl _) _, ⟨w.heap.size, rfl, hL.size, ⟨Nat.le_refl _, by simp⟩, Blk.new w _ _⟩⟩
    · refine obl_callL rfl (fun _ => by kernel_rfl) 49 (fun x => #[.func (.func 69) #[] #[.pointer (x 4 0).1]]) (fun x w => by kernel_rfl) ?_
      intro x w F hL hN
      have n3 := hN 3 (by simp)
      have n4 := hN 4 (by simp)
      obtain ⟨c, hc, hmk, -, -⟩ := n3
      obtain ⟨g, hg, hge, -, hbg⟩ := n4
      rw [hg]
      have hbg' : Blk w g 85 #[.map (some (x 3 0).2)] := hbg
      refine (HSRT.out w g (x 3 0).2 c hbg'.lt (hbg'.c 0 rfl) hmk (by omega)).mono ?_
      rintro e w' ⟨v, sl, rfl, hb, hown, hpw, hmm⟩
      obtain ⟨A, cq, rfl⟩ := own_shape2 hown
      exact ⟨fun k => if k = 0 then (A, cq) else (none, sl.length), rfl, hb, sl, rfl, hpw, hmm, own_mono hown hL.size, fun g hg => hown.lt g hg⟩
    · refine obl_callL rfl (fun _ => by kernel_rfl) 53 (fun x => #[.slice Ap np cp]) (fun x w => by kernel_rfl) ?_
      intro x w F hL hN
      refine (HCL.out w (onward HM.out.below hL)).mono ?_
      rintro e w' ⟨v, rfl, hb, hown⟩
      obtain ⟨A, cq, rfl⟩ := own_shape2 hown
      exact ⟨fun _ => (A, cq), rfl, hb, own_mono hown hL.size, fun g hg => hown.lt g hg⟩
    · exact obl_alloc 76 10 (.agg #[.slice none 0 0, .slice none 0 0, .int .i64 0, .int .i64 0, .int .i64 0, .int .i64 0, .int .i64 0]) (by kernel_rfl) (by kernel_rfl) (fun _ => rfl) (fun _ _ _ h => h)
    · refine obl_store 76 10 23 12 #[.slice none 0 0, .slice none 0 0, .int .i64 0, .int .i64 0, .int .i64 0, .int .i64 0, .int .i64 0] (fun x => #[.slice (x 5 0).1 (x 5 1).2 (x 5 0).2, .slice (x 8 0).1 np (x 8 0).2, .int .i64 xd, .int .i64 xu, .int .i64 yd, .int .i64 yu, .int .i64 0]) (by kernel_rfl) rfl (by simp) (fun _ _ _ h => h) (fun _ => rfl) (fun _ => rfl) (fun _ => by kernel_rfl) (fun _ => rfl) (fun _ => by simp [Value.oneCell']) (fun _ => rfl) (by decide) (fun _ _ _ _ h => h)
  · refine ⟨?_, ?_, ?_, ?_, ?_, ?_, ?_, trivial⟩
    · refine ⟨fun x F wq wq' h hs hk => ?_, fun x x' F wq hx h => ?_⟩
      · have h2 : OwnF wq F W1.heap.size 3 1 (.slice (x 2 0).1 L.length (x 2 0).2) L.length (numsV L) := h
        exact h2.stab hk
      · have h2 : OwnF wq F W1.heap.size 3 1 (.slice (x 2 0).1 L.length (x 2 0).2) L.length (numsV L) := h
        rw [hx 2 (by simp)] at h2
        exact h2
    · exact ⟨SetRg.owe.1, fun x x' F w hx h => SetRg.owe.2 x x' F w (hx 3 (by simp)) h⟩
    · refine ⟨fun x F wq wq' h hs hk => ?_, fun x x' F wq hx h => ?_⟩
      · have h2 : PtrF wq F W1.heap.size (x 4 0).1 85 #[.map (some (x 3 0).2)] := h
        exact h2.stab hk
      · have h2 : PtrF wq F W1.heap.size (x 4 0).1 85 #[.map (some (x 3 0).2)] := h
        rw [hx 4 (by simp), hx 3 (by simp)] at h2
        exact h2
    · exact ⟨SrtRg.owe.1, fun x x' F w hx h => SrtRg.owe.2 x x' F w (hx 5 (by simp)) h⟩
    · refine ⟨fun x F wq wq' h hs hk => ?_, fun x x' F wq hx h => ?_⟩
      · have h2 : OwnF wq F W1.heap.size 3 1 (.slice (x 8 0).1 np (x 8 0).2) np (numsV ml) := h
        exact h2.stab hk
      · have h2 : OwnF wq F W1.heap.size 3 1 (.slice (x 8 0).1 np (x 8 0).2) np (numsV ml) := h
        rw [hx 8 (by simp)] at h2
        exact h2
    · exact owe_ptr 12 _ _ (fun x => #[.slice none 0 0, .slice none 0 0, .int .i64 0, .int .i64 0, .int .i64 0, .int .i64 0, .int .i64 0]) (fun _ _ _ => rfl) (by simp) (fun _ _ _ => rfl)
    · exact owe_ptr 12 _ _ (fun x => #[.slice (x 5 0).1 (x 5 1).2 (x 5 0).2, .slice (x 8 0).1 np (x 8 0).2, .int .i64 xd, .int .i64 xu, .int .i64 yd, .int .i64 yu, .int .i64 0]) (fun _ _ _ => rfl) (by simp) (fun x x' hx => by simp only [hx 5 (by simp), hx 8 (by simp)])
  intro xx w5 F hL hlv1
  obtain ⟨fct2, fct3, fct4, fct5, fct8, -, fct13, -⟩ := hlv1
  replace fct2 : OwnF w5 (F 2) W1.heap.size 3 1 (.slice (xx 2 0).1 L.length (xx 2 0).2) L.length (numsV L) := fct2 rfl
  replace fct3 : SetRg 3 W1.heap.size L xx (F 3) w5 := fct3 rfl
  replace fct4 : PtrF w5 (F 4) W1.heap.size (xx 4 0).1 85 #[.map (some (xx 3 0).2)] := fct4 rfl
  replace fct5 : SrtRg 5 W1.heap.size L xx (F 5) w5 := fct5 rfl
  replace fct8 : OwnF w5 (F 8) W1.heap.size 3 1 (.slice (xx 8 0).1 np (xx 8 0).2) np (numsV ml) := fct8 rfl
  replace fct13 : PtrF w5 (F 13) W1.heap.size (xx 12 0).1 76 #[.slice (xx 5 0).1 (xx 5 1).2 (xx 5 0).2, .slice (xx 8 0).1 np (xx 8 0).2, .int .i64 xd, .int .i64 xu, .int .i64 yd, .int .i64 yu, .int .i64 0] := fct13 rfl
  obtain ⟨sl, hsl, hpw, hmm, hos⟩ := fct5
  obtain ⟨pC, hgs, hge, -, hbg⟩ := fct13
  have hosl := own_mono hos.1 HM.out.size
  have homl := own_mono fct8.1 HM.out.size
  rw [hgs]
  have HMA := hide (HM.out.add (t := .row W1.heap.size 3 1 _ _ (numsV sl)) hL hos.1 (fun k hk => (hos.1.lt k (optL_iff.1 hk)).1))
  have HMB := hide (HM.out.add (t := .row W1.heap.size 3 1 _ _ (numsV ml)) hL fct8.1 (fun k hk => (fct8.1.lt k (optL_iff.1 hk)).1))
  have HW1 := hide HM.out.size
  clear fct2 fct3 fct4 fct8 hos
  generalize (xx 5 0).1 = As at *
  generalize (xx 5 1).2 = ns at *
  generalize (xx 5 0).2 = cs at *
  generalize (xx 8 0).1 = Am at *
  generalize (xx 8 0).2 = cm at *
  generalize (xx 2 0).1 = A2 at *
  generalize (xx 2 0).2 = c2 at *
  generalize (xx 3 0).2 = g3 at *
  generalize (xx 4 0).1 = A4 at *
  have HM1 := hide (HM.out.add (t := .blk pC 76 _) hL (show Blk _ _ _ _ from hbg) (fun k hk => by rw [List.mem_singleton.1 hk]; exact hge))
  clear HM hL hbg hge hgs
  have HM := HM1
  clear HM1
  have hslN : sl.length ≤ N := rise_le hpw fun p hp' => HMN.out p (HKM.out p ((hmm p).1 hp'))
  have hck := HCHK.out w5 As Am ns cs np cm sl hosl homl hsl HNP.out hnp0 hpw (fun p hp' => HKM.out p ((hmm p).1 hp')) (by omega) (by omega)
  have HCK := hide hck
  have HPW := hide hpw
  have HMM := hide hmm
  have HOSL := hide hosl
  have HOML := hide homl
  have HSL := hide hsl
  clear hck hpw hmm hosl homl hsl
  clear HCC HSET HSRT HCL HCHK hslN
  have bc : Blk w5 pC 76 #[.slice As ns cs, .slice Am np cm, .int .i64 xd, .int .i64 xu, .int .i64 yd, .int .i64 yu, .int .i64 0] := HM.out.get 0 rfl
  have ltc := bc.lt
  have c0 := bc.c 0 rfl
  have c1 := bc.c 1 rfl
  have c2 := bc.c 2 rfl
  have c3 := bc.c 3 rfl
  have c4 := bc.c 4 rfl
  have c5 := bc.c 5 rfl
  have c6 := bc.c 6 rfl
  have bg : Blk w5 pG 28 #[.int .i64 gx, .int .i64 gy, .int .i64 gs, .int .i64 (W : Nat), .int .i64 (H : Nat)] := HM.out.get 4 rfl
  have ltg := bg.lt
  have g0 := bg.c 0 rfl
  have g1 := bg.c 1 rfl
  have g2 := bg.c 2 rfl
  have g3 := bg.c 3 rfl
  have g4 := bg.c 4 rfl
  go_wp2_with fail
  refine HCK.out.mono ?_
  rintro e w6 ⟨rfl, hb6⟩
  replace HMA := hide (HMA.out.later hb6)
  replace HMB := hide (HMB.out.later hb6)
  replace HM := hide (HM.out.later hb6)
  clear hb6 HOSL HOML HCK
  have bc : Blk w6 pC 76 #[.slice As ns cs, .slice Am np cm, .int .i64 xd, .int .i64 xu, .int .i64 yd, .int .i64 yu, .int .i64 0] := HM.out.get 0 rfl
  have ltc := bc.lt
  have c0 := bc.c 0 rfl
  have c1 := bc.c 1 rfl
  have c2 := bc.c 2 rfl
  have c3 := bc.c 3 rfl
  have c4 := bc.c 4 rfl
  have c5 := bc.c 5 rfl
  have c6 := bc.c 6 rfl
  have br : Blk w6 pR 76 #[.slice none 0 0, .slice none 0 0, .int .i64 0, .int .i64 0, .int .i64 0, .int .i64 0, .int .i64 0] := HM.out.get 1 rfl
  have ltr := br.lt
  have r0 := br.c 0 rfl
  have fr0 := br.frozen 0
  have r1 := br.c 1 rfl
  have fr1 := br.frozen 1
  have r2 := br.c 2 rfl
  have fr2 := br.frozen 2
  have r3 := br.c 3 rfl
  have fr3 := br.frozen 3
  have r4 := br.c 4 rfl
  have fr4 := br.frozen 4
  have r5 := br.c 5 rfl
  have fr5 := br.frozen 5
  have r6 := br.c 6 rfl
  have fr6 := br.frozen 6
  go_wp2_with fail
  refine ret_world fun V hV => ?_
  have hM9 := Mem.to (((((((HM.out.set_ 1 rfl 0 (.slice As ns cs) (cs' := #[.slice As ns cs, .slice none 0 0, .int .i64 0, .int .i64 0, .int .i64 0, .int .i64 0, .int .i64 0]) rfl).set_ 1 rfl 1 (.slice Am np cm) (cs' := #[.slice As ns cs, .slice Am np cm, .int .i64 0, .int .i64 0, .int .i64 0, .int .i64 0, .int .i64 0]) rfl).set_ 1 rfl 2 (.int .i64 xd) (cs' := #[.slice As ns cs, .slice Am np cm, .int .i64 xd, .int .i64 0, .int .i64 0, .int .i64 0, .int .i64 0]) rfl).set_ 1 rfl 3 (.int .i64 xu) (cs' := #[.slice As ns cs, .slice Am np cm, .int .i64 xd, .int .i64 xu, .int .i64 0, .int .i64 0, .int .i64 0]) rfl).set_ 1 rfl 4 (.int .i64 yd) (cs' := #[.slice As ns cs, .slice Am np cm, .int .i64 xd, .int .i64 xu, .int .i64 yd, .int .i64 0, .int .i64 0]) rfl).set_ 1 rfl 5 (.int .i64 yu) (cs' := #[.slice As ns cs, .slice Am np cm, .int .i64 xd, .int .i64 xu, .int .i64 yd, .int .i64 yu, .int .i64 0]) rfl).set_ 1 rfl 6 (.int .i64 0) (cs' := #[.slice As ns cs, .slice Am np cm, .int .i64 xd, .int .i64 xu, .int .i64 yd, .int .i64 yu, .int .i64 0]) rfl) hV
  have hA9 := Mem.to (((((((HMA.out.set_ 1 rfl 0 (.slice As ns cs) (cs' := #[.slice As ns cs, .slice none 0 0, .int .i64 0, .int .i64 0, .int .i64 0, .int .i64 0, .int .i64 0]) rfl).set_ 1 rfl 1 (.slice Am np cm) (cs' := #[.slice As ns cs, .slice Am np cm, .int .i64 0, .int .i64 0, .int .i64 0, .int .i64 0, .int .i64 0]) rfl).set_ 1 rfl 2 (.int .i64 xd) (cs' := #[.slice As ns cs, .slice Am np cm, .int .i64 xd, .int .i64 0, .int .i64 0, .int .i64 0, .int .i64 0]) rfl).set_ 1 rfl 3 (.int .i64 xu) (cs' := #[.slice As ns cs, .slice Am np cm, .int .i64 xd, .int .i64 xu, .int .i64 0, .int .i64 0, .int .i64 0]) rfl).set_ 1 rfl 4 (.int .i64 yd) (cs' := #[.slice As ns cs, .slice Am np cm, .int .i64 xd, .int .i64 xu, .int .i64 yd, .int .i64 0, .int .i64 0]) rfl).set_ 1 rfl 5 (.int .i64 yu) (cs' := #[.slice As ns cs, .slice Am np cm, .int .i64 xd, .int .i64 xu, .int .i64 yd, .int .i64 yu, .int .i64 0]) rfl).set_ 1 rfl 6 (.int .i64 0) (cs' := #[.slice As ns cs, .slice Am np cm, .int .i64 xd, .int .i64 xu, .int .i64 yd, .int .i64 yu, .int .i64 0]) rfl) hV
  have hB9 := Mem.to (((((((HMB.out.set_ 1 rfl 0 (.slice As ns cs) (cs' := #[.slice As ns cs, .slice none 0 0, .int .i64 0, .int .i64 0, .int .i64 0, .int .i64 0, .int .i64 0]) rfl).set_ 1 rfl 1 (.slice Am np cm) (cs' := #[.slice As ns cs, .slice Am np cm, .int .i64 0, .int .i64 0, .int .i64 0, .int .i64 0, .int .i64 0]) rfl).set_ 1 rfl 2 (.int .i64 xd) (cs' := #[.slice As ns cs, .slice Am np cm, .int .i64 xd, .int .i64 0, .int .i64 0, .int .i64 0, .int .i64 0]) rfl).set_ 1 rfl 3 (.int .i64 xu) (cs' := #[.slice As ns cs, .slice Am np cm, .int .i64 xd, .int .i64 xu, .int .i64 0, .int .i64 0, .int .i64 0]) rfl).set_ 1 rfl 4 (.int .i64 yd) (cs' := #[.slice As ns cs, .slice Am np cm, .int .i64 xd, .int .i64 xu, .int .i64 yd, .int .i64 0, .int .i64 0]) rfl).set_ 1 rfl 5 (.int .i64 yu) (cs' := #[.slice As ns cs, .slice Am np cm, .int .i64 xd, .int .i64 xu, .int .i64 yd, .int .i64 yu, .int .i64 0]) rfl).set_ 1 rfl 6 (.int .i64 0) (cs' := #[.slice As ns cs, .slice Am np cm, .int .i64 xd, .int .i64 xu, .int .i64 yd, .int .i64 yu, .int .i64 0]) rfl) hV
  have hb9 := hM9.blk_ 1 rfl
  have q0 := hb9.c 0 rfl
  have q1 := hb9.c 1 rfl
  have q2 := hb9.c 2 rfl
  have q3 := hb9.c 3 rfl
  have q4 := hb9.c 4 rfl
  have q5 := hb9.c 5 rfl
  have q6 := hb9.c 6 rfl
  rw [← HPP.out]
  have hmm2 := HMM.out
  rw [← HL0.out] at hmm2
  refine bodyPost_ret (v := .tuple #[.agg #[.slice As ns cs, .slice Am np cm, .int .i64 xd, .int .i64 xu, .int .i64 yd, .int .i64 yu, .int .i64 0], .int .i64 0]) (by simp [results, Try.results20, go_sem, q0, q1, q2, q3, q4, q5, q6]) rfl ⟨As, Am, ns, cs, np, cm, sl, rfl, hM9.below, HSL.out, HNP.out, HPW.out, hmm2, own_mono (hA9.row_ 0 rfl) HW1.out, own_mono (hB9.row_ 0 rfl) HW1.out⟩
end Go.Proofs.Ytidbjidcjmbnlaa
end
section
namespace Go.Proofs.Ytidbjidcjmbnlaa
open Go Go.RowKit
attribute [local go_sem] Oper.semAt_some

theorem or_any (a b : Nat) (w : World) : Calls Try.prog 25 #[.int .i64 (a : Nat), .int .i64 (b : Nat)] w fun e w' => e = .returned (.int .i64 ((max a b : Nat) : Int)) ∧ w = w' := by
  by_cases h : a ≤ b
  · have h2 : max (a : Int) b = b := by omega
    have h3 : max a b = b := Nat.max_eq_right h
    rw [h3]
    go_enter Try.func25, Try.ntmps25
    go_wp2
    go_ret
    exact ⟨ret_int (by first | rfl | (split <;> omega)), rfl⟩
  · have h2 : max (a : Int) b = a := by omega
    have h3 : max a b = a := Nat.max_eq_left (by omega)
    rw [h3]
    go_enter Try.func25, Try.ntmps25
    go_wp2
    go_ret
    exact ⟨ret_int (by first | rfl | (split <;> omega)), rfl⟩
theorem number_any (a : Int) (w : World) : Calls Try.prog 27 #[.int .i64 a] w fun e w' => e = .returned (.int .i64 a) ∧ w = w' := by
  go_enter Try.func27, Try.ntmps27
  go_wp2
  go_ret
  exact ⟨rfl, rfl⟩
def shapeC (gx gy gs : Int) (W H gS gM : Nat) (xd xu yd yu : Int) : Array Value := #[.int .i64 gx, .int .i64 gy, .int .i64 gs, .int .i64 (W : Nat), .int .i64 (H : Nat), .map (some gS), .map (some gM), .int .i64 xd, .int .i64 xu, .int .i64 yd, .int .i64 yu, .int .i64 0]
set_option maxHeartbeats 2000000 in
set_option maxRecDepth 100000 in
theorem come_ok (gx gy gs : Int) (W H gS gM : Nat) (xd xu yd yu lo hi t P Q : Int) (w : World) (hP : lo * t = P) (hQ : hi * t = Q) (hPb : -1000000000 ≤ P ∧ P ≤ 1000000000) (hQb : -1000000000 ≤ Q ∧ Q ≤ 1000000000) (hlo : -100000 ≤ lo ∧ lo ≤ 100000) (hhi : -100000 ≤ hi ∧ hi ≤ 100000) :
    Calls Try.prog 72 #[.agg (shapeC gx gy gs W H gS gM xd xu yd yu), .agg #[.int .i64 lo, .int .i64 hi], .int .i64 t] w fun e w' => e = .returned (.tuple #[.int .i64 ((P - 1000000) / 1000000 + 1), .int .i64 (cdiv (Q + 1000000) 1000000 - 1)]) ∧ Below w.heap.size w w' := by
  have hd := fun V => (cdown_any (P - 1000000) 1000000 V (by omega) (by omega) (by omega) (by omega)).mono fun e w' (hq : e = .returned (.int .i64 ((P - 1000000) / 1000000)) ∧ V = w') => show e = .returned (.int .i64 ((P - 1000000) / 1000000)) ∧ Below V.heap.size V w' from ⟨hq.1, hq.2 ▸ Below.refl _ _⟩
  have hu := fun V => (cup_any (Q + 1000000) 1000000 V (by omega) (by omega) (by omega) (by omega)).mono fun e w' (hq : e = .returned (.int .i64 (cdiv (Q + 1000000) 1000000)) ∧ V = w') => show e = .returned (.int .i64 (cdiv (Q + 1000000) 1000000)) ∧ Below V.heap.size V w' from ⟨hq.1, hq.2 ▸ Below.refl _ _⟩
  have hDb : -10000000000 ≤ (P - 1000000) / 1000000 ∧ (P - 1000000) / 1000000 ≤ 10000000000 := by omega
  have hUb : -10000000000 ≤ cdiv (Q + 1000000) 1000000 ∧ cdiv (Q + 1000000) 1000000 ≤ 10000000000 := by unfold cdiv; omega
  obtain ⟨D, hD⟩ : ∃ q, (P - 1000000) / 1000000 = q := ⟨_, rfl⟩
  obtain ⟨U, hU⟩ : ∃ q, cdiv (Q + 1000000) 1000000 = q := ⟨_, rfl⟩
  rw [hD] at hd hDb ⊢
  rw [hU] at hu hUb ⊢
  unfold shapeC
  have HDN := hide hd
  have HUP := hide hu
  clear hd hu
  clear hD hU
  go_enter Try.func72, Try.ntmps72
  have HM := hide (Mem.start w)
  go_upto_region 1 with fail
  refine code_world fun W1 hW => ?_
  have HMn := Mem.to (Mem.allocAt (Mem.allocAt HM.out w.heap.size rfl #[.int .i64 gx, .int .i64 gy, .int .i64 gs, .int .i64 (W : Nat), .int .i64 (H : Nat), .map (some gS), .map (some gM), .int .i64 xd, .int .i64 xu, .int .i64 yd, .int .i64 yu, .int .i64 0] 87) (w.heap.size + 1) (by simp) #[.int .i64 lo, .int .i64 hi] 60) hW
  have LW : Later w W1 := by rw [hW]; exact (((Below.refl _ _).alloc (Nat.le_refl _) _).alloc (by simp; try omega) _)
  have szW : W1.heap.size = w.heap.size + 2 := by rw [hW]; simp
  clear hW
  replace HM := hide HMn
  clear HMn LW
  clear szW
  have a11 := (HM.out.blk_ 1 rfl).c 11 rfl
  have lta := (HM.out.blk_ 1 rfl).lt
  have bb : Blk W1 (w.heap.size + 1) 60 #[.int .i64 lo, .int .i64 hi] := HM.out.get 0 rfl
  have ltb := bb.lt
  have b0 := bb.c 0 rfl
  have b1 := bb.c 1 rfl
  go_wp2_with fail
  apply wp_region_L (w0 := W1) [[], [], [], [], [], [], [], [], [], [], [], [], [], [], [], [], [], [], [], [], [], []] [true, true, true, true, true, true, true, true, true, true, true, true, true, true, true, true, true, true, true, true, true, true] [] (fun ixq y => match ixq with  | _ => undef) (fun ixq x F wq => match ixq with  | _ => True) (fun a x => a) (by kernel_rfl) (by kernel_rfl) (fun _ => rfl) [16, 26] (by kernel_rfl)
  · intro x D hD
    have hne := hD.some
    have k0 := liftB hD a11 (by first | assumption | omega)
    have k1 := liftB hD b0 (by first | assumption | omega)
    have k2 := liftB hD b1 (by first | assumption | omega)
    simp only [takeOps, Act.put, List.setIfInBounds_toArray, List.set_cons_succ, List.set_cons_zero]
    repeat (go_big_quiet_step ((first | (go_at_call 46; with_reducible exact calls_later hD _ (HDN.out _)) | (go_at_call 47; with_reducible exact calls_later hD _ (HUP.out _)))))
    exact wpQuiet_nil rfl
  · intro d hd x x'
    simp only [List.mem_cons, List.not_mem_nil, or_false] at hd
    rcases hd with rfl | rfl
    all_goals rfl
  · exact trivial
  · exact trivial
  intro xx w2 F hL hlv1
  clear hlv1
  replace HM := hide (HM.out.later hL)
  clear hL bb ltb b0 b1
  go_wp2_with fail
  refine bodyPost_ret (v := .tuple #[.int .i64 (D + 1), .int .i64 (U - 1)]) (by simp [results, Try.results72, go_sem]) rfl ⟨rfl, HM.out.below⟩
def ShapedPost (sl ml : List Nat) (gx gy gs : Int) (W H : Nat) (xd xu yd yu : Int) (w : World) (e : Ending) (w' : World) : Prop := ∃ gS gM cS cM, e = .returned (.agg (shapeC gx gy gs W H gS gM xd xu yd yu)) ∧ Below w.heap.size w w' ∧ MapK w' Try.prog 3 izL okI gS (setF sl) cS ∧ MapK w' Try.prog 3 izL okI gM (setF ml) cM
set_option maxHeartbeats 4000000 in
set_option maxRecDepth 100000 in
theorem shaped_ok (gx gy gs : Int) (W H base ns cs nm cm : Nat) (As Am : Option Addr) (xd xu yd yu : Int) (sl ml : List Nat) (w : World) (hs : w.ownsRow base 3 1 (.slice As ns cs) ns (numsV sl)) (hm : w.ownsRow base 3 1 (.slice Am nm cm) nm (numsV ml)) (hns : sl.length = ns) (hnm : ml.length = nm) (hns6 : ns ≤ 10000) (hnm6 : nm ≤ 10000) (hs6 : ∀ p ∈ sl, p ≤ 1000000) (hm6 : ∀ p ∈ ml, p ≤ 1000000) :
    Calls Try.prog 23 #[.agg #[.int .i64 gx, .int .i64 gy, .int .i64 gs, .int .i64 (W : Nat), .int .i64 (H : Nat)], .agg (cloudC As Am ns cs nm cm xd xu yd yu)] w (ShapedPost sl ml gx gy gs W H xd xu yd yu w) := by
  obtain ⟨PP, hPP⟩ : ∃ PP, ShapedPost sl ml gx gy gs W H xd xu yd yu w = PP := ⟨_, rfl⟩
  rw [hPP]
  have hss := fun V (hB : Below w.heap.size w V) => set_any base (.slice As ns cs) sl V (by rw [hns]; exact own_belowT hs hB) (by omega) hs6
  have hsm := fun V (hB : Below w.heap.size w V) => set_any base (.slice Am nm cm) ml V (by rw [hnm]; exact own_belowT hm hB) (by omega) hm6
  unfold SetPost at hss hsm
  unfold cloudC
  have HSS := hide hss
  have HSM := hide hsm
  have HPP := hide hPP
  clear hss hsm hPP
  clear hs hm hns hnm hs6 hm6
  go_enter Try.func23, Try.ntmps23
  have HM := hide (Mem.start w)
  go_upto_region 1 with fail
  refine code_world fun W1 hW => ?_
  have HMn := Mem.to (Mem.allocAt (Mem.allocAt (Mem.allocAt HM.out w.heap.size rfl #[.int .i64 gx, .int .i64 gy, .int .i64 gs, .int .i64 (W : Nat), .int .i64 (H : Nat)] 28) (w.heap.size + 1) (by simp) #[.slice As ns cs, .slice Am nm cm, .int .i64 xd, .int .i64 xu, .int .i64 yd, .int .i64 yu, .int .i64 0] 76) (w.heap.size + 2) (by simp) #[.int .i64 0, .int .i64 0, .int .i64 0, .int .i64 0, .int .i64 0, .map none, .map none, .int .i64 0, .int .i64 0, .int .i64 0, .int .i64 0, .int .i64 0] 87) hW
  have LW : Later w W1 := by rw [hW]; exact ((((Below.refl _ _).alloc (Nat.le_refl _) _).alloc (by simp; try omega) _).alloc (by simp; try omega) _)
  have szW : W1.heap.size = w.heap.size + 3 := by rw [hW]; simp
  clear hW
  replace HM := hide HMn
  clear HMn LW
  clear szW
  obtain ⟨pG, hpG⟩ : ∃ q, w.heap.size = q := ⟨_, rfl⟩
  obtain ⟨pC, hpC⟩ : ∃ q, pG + 1 = q := ⟨_, rfl⟩
  obtain ⟨pR, hpR⟩ : ∃ q, pC + 1 = q := ⟨_, rfl⟩
  rw [show w.heap.size + 2 = pR by omega, show w.heap.size + 1 = pC by omega, hpG] at HM
  simp only [hpG, hpC, hpR]
  clear hpC hpR hpG
  have bg : Blk W1 pG 28 #[.int .i64 gx, .int .i64 gy, .int .i64 gs, .int .i64 (W : Nat), .int .i64 (H : Nat)] := HM.out.get 2 rfl
  have ltg := bg.lt
  have g0 := bg.c 0 rfl
  have g1 := bg.c 1 rfl
  have g2 := bg.c 2 rfl
  have g3 := bg.c 3 rfl
  have g4 := bg.c 4 rfl
  have bc : Blk W1 pC 76 #[.slice As ns cs, .slice Am nm cm, .int .i64 xd, .int .i64 xu, .int .i64 yd, .int .i64 yu, .int .i64 0] := HM.out.get 1 rfl
  have ltc := bc.lt
  have c0 := bc.c 0 rfl
  have c1 := bc.c 1 rfl
  have c2 := bc.c 2 rfl
  have c3 := bc.c 3 rfl
  have c4 := bc.c 4 rfl
  have c5 := bc.c 5 rfl
  have c6 := bc.c 6 rfl
  go_wp2_with fail
  refine wp_region_cut 12 (by kernel_rfl) (by simp only [List.take_succ_cons, List.take_zero]; exact rfl) (by simp only [List.drop_succ_cons, List.drop_zero]; exact rfl) (by kernel_rfl) ?_
  apply any_region_J (w0 := W1) [[], [], [], [], [], [], [3], [], [], [], [], [3, 6]] [true, true, true, false, true, true, false, true, true, true, true, true] [⟨3, none, [], []⟩, ⟨6, none, [], []⟩] (fun ixq y => match ixq with | 3 => .map (some (y 0).2) | 6 => .map (some (y 0).2) | _ => undef) (fun ixq x F wq => match ixq with | 3 => SetRg 3 W1.heap.size sl x F wq | 6 => SetRg 6 W1.heap.size ml x F wq | _ => True) (fun a x => ((a).put (some 8) (.map (some ((x 3) 0).2))).put (some 11) (.map (some ((x 6) 0).2))) (by kernel_rfl) (fun x => putH_step (some 8) (.map (some ((x 3) 0).2)) rfl rfl <| putH_step (some 11) (.map (some ((x 6) 0).2)) rfl rfl <| putH_end) [] (by kernel_rfl)
  · intro x D hD
    have hne := hD.some
    have k0 := liftB hD g0 (by first | assumption | omega)
    have k1 := liftB hD g1 (by first | assumption | omega)
    have k2 := liftB hD g2 (by first | assumption | omega)
    have k3 := liftB hD g3 (by first | assumption | omega)
    have k4 := liftB hD g4 (by first | assumption | omega)
    have k5 := liftB hD c0 (by first | assumption | omega)
    have k6 := liftB hD c1 (by first | assumption | omega)
    have k7 := liftB hD c2 (by first | assumption | omega)
    have k8 := liftB hD c3 (by first | assumption | omega)
    have k9 := liftB hD c4 (by first | assumption | omega)
    have k10 := liftB hD c5 (by first | assumption | omega)
    have k11 := liftB hD c6 (by first | assumption | omega)
    simp only [takeOps, Act.put, List.setIfInBounds_toArray, List.set_cons_succ, List.set_cons_zero]
    repeat (go_big_quiet_step (fail))
    exact wpQuiet_nil rfl
  · exact fun _ h => absurd h (by simp)
  · refine ⟨?_, ?_, trivial⟩
    · refine obl_callL rfl (fun _ => by kernel_rfl) 51 (fun x => #[.slice As ns cs]) (fun x w => by kernel_rfl) ?_
      intro x w F hL hN
      refine (HSS.out w (onward HM.out.below hL)).mono ?_
      rintro e w' ⟨g, c, rfl, hc, hMs⟩
      have hmk := hMs.map_ 0 rfl
      have hlow := hMs.low g (by simp [fps, Th.fp, thK])
      exact ⟨fun _ => (none, g), rfl, hMs.below, c, hc, hmk, ⟨hlow, hmk.lt⟩, Nat.le_trans hL.size hlow⟩
    · refine obl_callL rfl (fun _ => by kernel_rfl) 51 (fun x => #[.slice Am nm cm]) (fun x w => by kernel_rfl) ?_
      intro x w F hL hN
      refine (HSM.out w (onward HM.out.below hL)).mono ?_
      rintro e w' ⟨g, c, rfl, hc, hMs⟩
      have hmk := hMs.map_ 0 rfl
      have hlow := hMs.low g (by simp [fps, Th.fp, thK])
      exact ⟨fun _ => (none, g), rfl, hMs.below, c, hc, hmk, ⟨hlow, hmk.lt⟩, Nat.le_trans hL.size hlow⟩
  · refine ⟨?_, ?_, trivial⟩
    · exact ⟨SetRg.owe.1, fun x x' F w hx h => SetRg.owe.2 x x' F w (hx 3 (by simp)) h⟩
    · exact ⟨SetRg.owe.1, fun x x' F w hx h => SetRg.owe.2 x x' F w (hx 6 (by simp)) h⟩
  intro xx w5 F hL hlv2 hap2
  clear hap2
  obtain ⟨fct3, fct6, -⟩ := hlv2
  replace fct3 : SetRg 3 W1.heap.size sl xx (F 3) w5 := fct3 rfl
  replace fct6 : SetRg 6 W1.heap.size ml xx (F 6) w5 := fct6 rfl
  refine ⟨rfl, ?_⟩
  obtain ⟨cS, -, hmS, -, hgS⟩ := fct3
  obtain ⟨cM, -, hmM, -, hgM⟩ := fct6
  generalize (xx 3 0).2 = gS at *
  generalize (xx 6 0).2 = gM at *
  have HMA := hide (HM.out.add (t := thK Try.prog 3 izL okI gS (setF sl) cS) hL hmS (fun k hk => by rw [List.mem_singleton.1 hk]; exact hgS))
  have HMB := hide (HM.out.add (t := thK Try.prog 3 izL okI gM (setF ml) cM) hL hmM (fun k hk => by rw [List.mem_singleton.1 hk]; exact hgM))
  replace HM := hide (HM.out.later hL)
  clear hL bg ltg g0 g1 g2 g3 g4 bc ltc c0 c1 c2 c3 c4 c5 c6
  have br : Blk w5 pR 87 #[.int .i64 0, .int .i64 0, .int .i64 0, .int .i64 0, .int .i64 0, .map none, .map none, .int .i64 0, .int .i64 0, .int .i64 0, .int .i64 0, .int .i64 0] := HM.out.get 0 rfl
  have ltr := br.lt
  have r0 := br.c 0 rfl
  have fr0 := br.frozen 0
  have r1 := br.c 1 rfl
  have fr1 := br.frozen 1
  have r2 := br.c 2 rfl
  have fr2 := br.frozen 2
  have r3 := br.c 3 rfl
  have fr3 := br.frozen 3
  have r4 := br.c 4 rfl
  have fr4 := br.frozen 4
  have r5 := br.c 5 rfl
  have fr5 := br.frozen 5
  have r6 := br.c 6 rfl
  have fr6 := br.frozen 6
  have r7 := br.c 7 rfl
  have fr7 := br.frozen 7
  have r8 := br.c 8 rfl
  have fr8 := br.frozen 8
  have r9 := br.c 9 rfl
  have fr9 := br.frozen 9
  have r10 := br.c 10 rfl
  have fr10 := br.frozen 10
  have r11 := br.c 11 rfl
  have fr11 := br.frozen 11
  go_wp2_with fail
  refine ret_world fun V hV => ?_
  have hM9 := Mem.to ((((((((((((HM.out.set_ 0 rfl 0 (.int .i64 gx) (cs' := #[.int .i64 gx, .int .i64 0, .int .i64 0, .int .i64 0, .int .i64 0, .map none, .map none, .int .i64 0, .int .i64 0, .int .i64 0, .int .i64 0, .int .i64 0]) rfl).set_ 0 rfl 1 (.int .i64 gy) (cs' := #[.int .i64 gx, .int .i64 gy, .int .i64 0, .int .i64 0, .int .i64 0, .map none, .map none, .int .i64 0, .int .i64 0, .int .i64 0, .int .i64 0, .int .i64 0]) rfl).set_ 0 rfl 2 (.int .i64 gs) (cs' := #[.int .i64 gx, .int .i64 gy, .int .i64 gs, .int .i64 0, .int .i64 0, .map none, .map none, .int .i64 0, .int .i64 0, .int .i64 0, .int .i64 0, .int .i64 0]) rfl).set_ 0 rfl 3 (.int .i64 (W : Nat)) (cs' := #[.int .i64 gx, .int .i64 gy, .int .i64 gs, .int .i64 (W : Nat), .int .i64 0, .map none, .map none, .int .i64 0, .int .i64 0, .int .i64 0, .int .i64 0, .int .i64 0]) rfl).set_ 0 rfl 4 (.int .i64 (H : Nat)) (cs' := #[.int .i64 gx, .int .i64 gy, .int .i64 gs, .int .i64 (W : Nat), .int .i64 (H : Nat), .map none, .map none, .int .i64 0, .int .i64 0, .int .i64 0, .int .i64 0, .int .i64 0]) rfl).set_ 0 rfl 5 (.map (some gS)) (cs' := #[.int .i64 gx, .int .i64 gy, .int .i64 gs, .int .i64 (W : Nat), .int .i64 (H : Nat), .map (some gS), .map none, .int .i64 0, .int .i64 0, .int .i64 0, .int .i64 0, .int .i64 0]) rfl).set_ 0 rfl 6 (.map (some gM)) (cs' := #[.int .i64 gx, .int .i64 gy, .int .i64 gs, .int .i64 (W : Nat), .int .i64 (H : Nat), .map (some gS), .map (some gM), .int .i64 0, .int .i64 0, .int .i64 0, .int .i64 0, .int .i64 0]) rfl).set_ 0 rfl 7 (.int .i64 xd) (cs' := #[.int .i64 gx, .int .i64 gy, .int .i64 gs, .int .i64 (W : Nat), .int .i64 (H : Nat), .map (some gS), .map (some gM), .int .i64 xd, .int .i64 0, .int .i64 0, .int .i64 0, .int .i64 0]) rfl).set_ 0 rfl 8 (.int .i64 xu) (cs' := #[.int .i64 gx, .int .i64 gy, .int .i64 gs, .int .i64 (W : Nat), .int .i64 (H : Nat), .map (some gS), .map (some gM), .int .i64 xd, .int .i64 xu, .int .i64 0, .int .i64 0, .int .i64 0]) rfl).set_ 0 rfl 9 (.int .i64 yd) (cs' := #[.int .i64 gx, .int .i64 gy, .int .i64 gs, .int .i64 (W : Nat), .int .i64 (H : Nat), .map (some gS), .map (some gM), .int .i64 xd, .int .i64 xu, .int .i64 yd, .int .i64 0, .int .i64 0]) rfl).set_ 0 rfl 10 (.int .i64 yu) (cs' := #[.int .i64 gx, .int .i64 gy, .int .i64 gs, .int .i64 (W : Nat), .int .i64 (H : Nat), .map (some gS), .map (some gM), .int .i64 xd, .int .i64 xu, .int .i64 yd, .int .i64 yu, .int .i64 0]) rfl).set_ 0 rfl 11 (.int .i64 0) (cs' := #[.int .i64 gx, .int .i64 gy, .int .i64 gs, .int .i64 (W : Nat), .int .i64 (H : Nat), .map (some gS), .map (some gM), .int .i64 xd, .int .i64 xu, .int .i64 yd, .int .i64 yu, .int .i64 0]) rfl) hV
  have hA9 := Mem.to ((((((((((((HMA.out.set_ 1 rfl 0 (.int .i64 gx) (cs' := #[.int .i64 gx, .int .i64 0, .int .i64 0, .int .i64 0, .int .i64 0, .map none, .map none, .int .i64 0, .int .i64 0, .int .i64 0, .int .i64 0, .int .i64 0]) rfl).set_ 1 rfl 1 (.int .i64 gy) (cs' := #[.int .i64 gx, .int .i64 gy, .int .i64 0, .int .i64 0, .int .i64 0, .map none, .map none, .int .i64 0, .int .i64 0, .int .i64 0, .int .i64 0, .int .i64 0]) rfl).set_ 1 rfl 2 (.int .i64 gs) (cs' := #[.int .i64 gx, .int .i64 gy, .int .i64 gs, .int .i64 0, .int .i64 0, .map none, .map none, .int .i64 0, .int .i64 0, .int .i64 0, .int .i64 0, .int .i64 0]) rfl).set_ 1 rfl 3 (.int .i64 (W : Nat)) (cs' := #[.int .i64 gx, .int .i64 gy, .int .i64 gs, .int .i64 (W : Nat), .int .i64 0, .map none, .map none, .int .i64 0, .int .i64 0, .int .i64 0, .int .i64 0, .int .i64 0]) rfl).set_ 1 rfl 4 (.int .i64 (H : Nat)) (cs' := #[.int .i64 gx, .int .i64 gy, .int .i64 gs, .int .i64 (W : Nat), .int .i64 (H : Nat), .map none, .map none, .int .i64 0, .int .i64 0, .int .i64 0, .int .i64 0, .int .i64 0]) rfl).set_ 1 rfl 5 (.map (some gS)) (cs' := #[.int .i64 gx, .int .i64 gy, .int .i64 gs, .int .i64 (W : Nat), .int .i64 (H : Nat), .map (some gS), .map none, .int .i64 0, .int .i64 0, .int .i64 0, .int .i64 0, .int .i64 0]) rfl).set_ 1 rfl 6 (.map (some gM)) (cs' := #[.int .i64 gx, .int .i64 gy, .int .i64 gs, .int .i64 (W : Nat), .int .i64 (H : Nat), .map (some gS), .map (some gM), .int .i64 0, .int .i64 0, .int .i64 0, .int .i64 0, .int .i64 0]) rfl).set_ 1 rfl 7 (.int .i64 xd) (cs' := #[.int .i64 gx, .int .i64 gy, .int .i64 gs, .int .i64 (W : Nat), .int .i64 (H : Nat), .map (some gS), .map (some gM), .int .i64 xd, .int .i64 0, .int .i64 0, .int .i64 0, .int .i64 0]) rfl).set_ 1 rfl 8 (.int .i64 xu) (cs' := #[.int .i64 gx, .int .i64 gy, .int .i64 gs, .int .i64 (W : Nat), .int .i64 (H : Nat), .map (some gS), .map (some gM), .int .i64 xd, .int .i64 xu, .int .i64 0, .int .i64 0, .int .i64 0]) rfl).set_ 1 rfl 9 (.int .i64 yd) (cs' := #[.int .i64 gx, .int .i64 gy, .int .i64 gs, .int .i64 (W : Nat), .int .i64 (H : Nat), .map (some gS), .map (some gM), .int .i64 xd, .int .i64 xu, .int .i64 yd, .int .i64 0, .int .i64 0]) rfl).set_ 1 rfl 10 (.int .i64 yu) (cs' := #[.int .i64 gx, .int .i64 gy, .int .i64 gs, .int .i64 (W : Nat), .int .i64 (H : Nat), .map (some gS), .map (some gM), .int .i64 xd, .int .i64 xu, .int .i64 yd, .int .i64 yu, .int .i64 0]) rfl).set_ 1 rfl 11 (.int .i64 0) (cs' := #[.int .i64 gx, .int .i64 gy, .int .i64 gs, .int .i64 (W : Nat), .int .i64 (H : Nat), .map (some gS), .map (some gM), .int .i64 xd, .int .i64 xu, .int .i64 yd, .int .i64 yu, .int .i64 0]) rfl) hV
  have hB9 := Mem.to ((((((((((((HMB.out.set_ 1 rfl 0 (.int .i64 gx) (cs' := #[.int .i64 gx, .int .i64 0, .int .i64 0, .int .i64 0, .int .i64 0, .map none, .map none, .int .i64 0, .int .i64 0, .int .i64 0, .int .i64 0, .int .i64 0]) rfl).set_ 1 rfl 1 (.int .i64 gy) (cs' := #[.int .i64 gx, .int .i64 gy, .int .i64 0, .int .i64 0, .int .i64 0, .map none, .map none, .int .i64 0, .int .i64 0, .int .i64 0, .int .i64 0, .int .i64 0]) rfl).set_ 1 rfl 2 (.int .i64 gs) (cs' := #[.int .i64 gx, .int .i64 gy, .int .i64 gs, .int .i64 0, .int .i64 0, .map none, .map none, .int .i64 0, .int .i64 0, .int .i64 0, .int .i64 0, .int .i64 0]) rfl).set_ 1 rfl 3 (.int .i64 (W : Nat)) (cs' := #[.int .i64 gx, .int .i64 gy, .int .i64 gs, .int .i64 (W : Nat), .int .i64 0, .map none, .map none, .int .i64 0, .int .i64 0, .int .i64 0, .int .i64 0, .int .i64 0]) rfl).set_ 1 rfl 4 (.int .i64 (H : Nat)) (cs' := #[.int .i64 gx, .int .i64 gy, .int .i64 gs, .int .i64 (W : Nat), .int .i64 (H : Nat), .map none, .map none, .int .i64 0, .int .i64 0, .int .i64 0, .int .i64 0, .int .i64 0]) rfl).set_ 1 rfl 5 (.map (some gS)) (cs' := #[.int .i64 gx, .int .i64 gy, .int .i64 gs, .int .i64 (W : Nat), .int .i64 (H : Nat), .map (some gS), .map none, .int .i64 0, .int .i64 0, .int .i64 0, .int .i64 0, .int .i64 0]) rfl).set_ 1 rfl 6 (.map (some gM)) (cs' := #[.int .i64 gx, .int .i64 gy, .int .i64 gs, .int .i64 (W : Nat), .int .i64 (H : Nat), .map (some gS), .map (some gM), .int .i64 0, .int .i64 0, .int .i64 0, .int .i64 0, .int .i64 0]) rfl).set_ 1 rfl 7 (.int .i64 xd) (cs' := #[.int .i64 gx, .int .i64 gy, .int .i64 gs, .int .i64 (W : Nat), .int .i64 (H : Nat), .map (some gS), .map (some gM), .int .i64 xd, .int .i64 0, .int .i64 0, .int .i64 0, .int .i64 0]) rfl).set_ 1 rfl 8 (.int .i64 xu) (cs' := #[.int .i64 gx, .int .i64 gy, .int .i64 gs, .int .i64 (W : Nat), .int .i64 (H : Nat), .map (some gS), .map (some gM), .int .i64 xd, .int .i64 xu, .int .i64 0, .int .i64 0, .int .i64 0]) rfl).set_ 1 rfl 9 (.int .i64 yd) (cs' := #[.int .i64 gx, .int .i64 gy, .int .i64 gs, .int .i64 (W : Nat), .int .i64 (H : Nat), .map (some gS), .map (some gM), .int .i64 xd, .int .i64 xu, .int .i64 yd, .int .i64 0, .int .i64 0]) rfl).set_ 1 rfl 10 (.int .i64 yu) (cs' := #[.int .i64 gx, .int .i64 gy, .int .i64 gs, .int .i64 (W : Nat), .int .i64 (H : Nat), .map (some gS), .map (some gM), .int .i64 xd, .int .i64 xu, .int .i64 yd, .int .i64 yu, .int .i64 0]) rfl).set_ 1 rfl 11 (.int .i64 0) (cs' := #[.int .i64 gx, .int .i64 gy, .int .i64 gs, .int .i64 (W : Nat), .int .i64 (H : Nat), .map (some gS), .map (some gM), .int .i64 xd, .int .i64 xu, .int .i64 yd, .int .i64 yu, .int .i64 0]) rfl) hV
  have hb9 := hM9.blk_ 0 rfl
  have q0 := hb9.c 0 rfl
  have q1 := hb9.c 1 rfl
  have q2 := hb9.c 2 rfl
  have q3 := hb9.c 3 rfl
  have q4 := hb9.c 4 rfl
  have q5 := hb9.c 5 rfl
  have q6 := hb9.c 6 rfl
  have q7 := hb9.c 7 rfl
  have q8 := hb9.c 8 rfl
  have q9 := hb9.c 9 rfl
  have q10 := hb9.c 10 rfl
  have q11 := hb9.c 11 rfl
  rw [← HPP.out]
  refine bodyPost_ret (v := .agg (shapeC gx gy gs W H gS gM xd xu yd yu)) (by unfold shapeC; simp [results, Try.results23, go_sem, q0, q1, q2, q3, q4, q5, q6, q7, q8, q9, q10, q11]) rfl ⟨gS, gM, cS, cM, rfl, hM9.below, hA9.map_ 0 rfl, hB9.map_ 0 rfl⟩
end Go.Proofs.Ytidbjidcjmbnlaa
end
section
namespace Go.Proofs.Ytidbjidcjmbnlaa
open Go Go.RowKit
attribute [local go_sem] Oper.semAt_some

set_option maxRecDepth 100000 in
theorem sources_any (gx gy gs : Int) (W H gS gM p : Nat) (xd xu yd yu t : Int) (w : World) :
    Calls Try.prog 55 #[.agg (shapeC gx gy gs W H gS gM xd xu yd yu), .int .i64 (p : Nat), .int .i64 t] w fun e w' => e = .returned (.func (.func 71) #[] #[.pointer (some ⟨w.heap.size + 1, 0, none⟩), .pointer (some ⟨w.heap.size, 0, none⟩), .pointer (some ⟨w.heap.size + 2, 0, none⟩)]) ∧ Mem w [.blk (w.heap.size + 2) 3 #[.int .i64 t], .blk (w.heap.size + 1) 3 #[.int .i64 (p : Nat)], .blk w.heap.size 87 (shapeC gx gy gs W H gS gM xd xu yd yu)] w' := by
  unfold shapeC
  have hmf : ∀ (fn : Fn) (first cap : Array Value) (w : World), (Instr.makeFunc fn first cap).run Try.prog w = .ok (.func fn first cap) w := fun _ _ _ _ => rfl
  go_enter Try.func55, Try.ntmps55
  have HM := hide (Mem.start w)
  go_upto_region 1 with fail
  refine code_world fun W1 hW => ?_
  have HMn := Mem.to (Mem.allocAt (Mem.allocAt (Mem.allocAt HM.out w.heap.size rfl #[.int .i64 gx, .int .i64 gy, .int .i64 gs, .int .i64 (W : Nat), .int .i64 (H : Nat), .map (some gS), .map (some gM), .int .i64 xd, .int .i64 xu, .int .i64 yd, .int .i64 yu, .int .i64 0] 87) (w.heap.size + 1) (by simp) #[.int .i64 (p : Nat)] 3) (w.heap.size + 2) (by simp) #[.int .i64 t] 3) hW
  have LW : Later w W1 := by rw [hW]; exact ((((Below.refl _ _).alloc (Nat.le_refl _) _).alloc (by simp; try omega) _).alloc (by simp; try omega) _)
  have szW : W1.heap.size = w.heap.size + 3 := by rw [hW]; simp
  clear hW
  replace HM := hide HMn
  clear HMn LW
  clear szW
  go_wp2
  go_ret
  exact ⟨rfl, HM.out⟩
end Go.Proofs.Ytidbjidcjmbnlaa
end
section
namespace Go.Proofs.Ytidbjidcjmbnlaa
open Go Go.RowKit
attribute [local go_sem] Oper.semAt_some

/-- A source. -/
abbrev InS (W H : Nat) (c : Come) (p : Nat) := {z : Int // z ∈ srcL W H c p}
/-- What has been yielded ahead of pixel k. -/
def SrcI (S : Nat → Prop) (V : World) {W H p : Nat} {c : Come} (J : List (InS W H c p) → World → Prop) (k : Nat) (wr : World) : Prop := ∃ pre : List (InS W H c p), pre.map (·.1) = srcP W H c p k ∧ J pre wr ∧ KeptS S V wr
set_option maxHeartbeats 4000000 in
set_option maxRecDepth 100000 in
theorem sources_stops (S : Nat → Prop) (gx gy gs : Int) (W H gS gM p bs bp bt m : Nat) (xd xu yd yu t lx rx ly ry : Int) (w : World) (hm : 1 ≤ m) (hp : p < W * H) (hW : 1 ≤ W) (hW8 : W ≤ 8) (hH8 : H ≤ 8)
    (hlx : -10000 ≤ lx ∧ lx ≤ 10000) (hrx : -10000 ≤ rx ∧ rx ≤ 10000) (hly : -10000 ≤ ly ∧ ly ≤ 10000) (hry : -10000 ≤ ry ∧ ry ≤ 10000)
    (hx : ∀ V, Calls Try.prog 72 #[.agg (shapeC gx gy gs W H gS gM xd xu yd yu), .agg #[.int .i64 xd, .int .i64 xu], .int .i64 t] V fun e w' => e = .returned (.tuple #[.int .i64 lx, .int .i64 rx]) ∧ Below V.heap.size V w')
    (hy : ∀ V, Calls Try.prog 72 #[.agg (shapeC gx gy gs W H gS gM xd xu yd yu), .agg #[.int .i64 yd, .int .i64 yu], .int .i64 t] V fun e w' => e = .returned (.tuple #[.int .i64 ly, .int .i64 ry]) ∧ Below V.heap.size V w')
    (hSs : S bs) (hSp : S bp) (hSt : S bt) (hSw : ∀ k, S k → k < w.heap.size) (Bs : Blk w bs 87 (shapeC gx gy gs W H gS gM xd xu yd yu)) (Bp : Blk w bp 3 #[.int .i64 (p : Nat)]) (Bt : Blk w bt 3 #[.int .i64 t]) :
    SeqStopsK Fence.wide m Try.prog 71 #[.pointer (some ⟨bp, 0, none⟩), .pointer (some ⟨bs, 0, none⟩), .pointer (some ⟨bt, 0, none⟩)]
      (fun z : InS W H ⟨lx, rx, ly, ry⟩ p => #[.int .i64 z.1]) (KeptS S) (fun xs => xs.map (·.1) = srcL W H ⟨lx, rx, ly, ry⟩ p) (fun pre => pre.map (·.1) <+: srcL W H ⟨lx, rx, ly, ry⟩ p) (W * H + 1) w := by
  intro lp J Jx V hV hJ hJx hY h0
  replace Bs := blk_later Bs hV
  replace Bp := blk_later Bp hV
  replace Bt := blk_later Bt hV
  have hSV : ∀ k, S k → k < V.heap.size := fun k h => Nat.lt_of_lt_of_le (hSw k h) hV.size
  have hN2 : W * H ≤ 64 := Nat.mul_le_mul hW8 hH8
  have hoi := out_iff (W := W) (H := H) (p := p) (c := ⟨lx, rx, ly, ry⟩)
  have hst := src_start (W := W) (H := H) (p := p) (c := ⟨lx, rx, ly, ry⟩) hW
  have hro := fun v => src_row (W := W) (H := H) (p := p) (c := ⟨lx, rx, ly, ry⟩) (v := v) hW
  have hat := fun v u => src_at (W := W) (H := H) (p := p) (c := ⟨lx, rx, ly, ry⟩) (v := v) (u := u) hW
  have hsp := fun v u => src_step (W := W) (H := H) (p := p) (c := ⟨lx, rx, ly, ry⟩) (v := v) (u := u) hW
  have hne := fun v u => src_next (W := W) (H := H) (p := p) (c := ⟨lx, rx, ly, ry⟩) (v := v) (u := u) hW
  have hen := fun v => src_end (W := W) (H := H) (p := p) (c := ⟨lx, rx, ly, ry⟩) (v := v) hW
  unfold ulI uhI vlI vhI at *
  dsimp only at hoi hst hro hat hsp hne hen
  have hm1 : (p : Int) % (W : Int) = ((p % W : Nat) : Int) := rfl
  have hm2 : (p : Int) / (W : Int) = ((p / W : Nat) : Int) := rfl
  have hx1 := Nat.mod_lt p hW
  have hy1 : p / W < H := Nat.div_lt_of_lt_mul hp
  obtain ⟨x, hx0⟩ : ∃ x, p % W = x := ⟨_, rfl⟩
  obtain ⟨y, hy0⟩ : ∃ y, p / W = y := ⟨_, rfl⟩
  simp only [hx0, hy0] at hoi hst hro hat hsp hne hen hm1 hm2 hx1 hy1
  obtain ⟨xa, hxa⟩ : ∃ q, (x : Int) - rx = q := ⟨_, rfl⟩
  obtain ⟨xb, hxb⟩ : ∃ q, (x : Int) - lx = q := ⟨_, rfl⟩
  obtain ⟨ya, hya⟩ : ∃ q, (y : Int) - ry = q := ⟨_, rfl⟩
  obtain ⟨yb, hyb⟩ : ∃ q, (y : Int) - ly = q := ⟨_, rfl⟩
  simp only [hxa, hxb, hya, hyb] at hoi hst hro hat hsp hne hen
  obtain ⟨un, hun⟩ := Int.eq_ofNat_of_zero_le (show 0 ≤ max 0 xa by omega)
  obtain ⟨vn, hvn⟩ := Int.eq_ofNat_of_zero_le (show 0 ≤ max 0 ya by omega)
  obtain ⟨uh, huh⟩ : ∃ q, min ((W : Int) - 1) xb = q := ⟨_, rfl⟩
  obtain ⟨vh, hvh⟩ : ∃ q, min ((H : Int) - 1) yb = q := ⟨_, rfl⟩
  simp only [hun, hvn, huh, hvh, Int.toNat_natCast] at hst hro hat hsp hne hen
  have hxa2 : -20000 ≤ xa ∧ xa ≤ 20000 := by omega
  have hxb2 : -20000 ≤ xb ∧ xb ≤ 20000 := by omega
  have hya2 : -20000 ≤ ya ∧ ya ≤ 20000 := by omega
  have hyb2 : -20000 ≤ yb ∧ yb ≤ 20000 := by omega
  have hun2 : un ≤ 20000 := by omega
  have hvn2 : vn ≤ 20000 := by omega
  have huh2 : uh ≤ 7 := by omega
  have hvh2 : vh ≤ 7 := by omega
  have hun3 : (if 0 < xa then xa else 0) = (un : Int) := by rw [← hun]; split <;> omega
  have hvn3 : (if 0 < ya then ya else 0) = (vn : Int) := by rw [← hvn]; split <;> omega
  have huh3 : (if xb < (W : Int) - 1 then xb else (W : Int) - 1) = uh := by rw [← huh]; split <;> omega
  have hvh3 : (if yb < (H : Int) - 1 then yb else (H : Int) - 1) = vh := by rw [← hvh]; split <;> omega
  have hW0 : ¬ (W : Int) = 0 := by omega
  have hpm : (p : Int) ≤ 64 := by omega
  have hx8 : (x : Int) ≤ 7 := by omega
  have hy8 : (y : Int) ≤ 7 := by omega
  have hwI : (W : Int) ≤ 8 := by omega
  have hhI : (H : Int) ≤ 8 := by omega
  unfold shapeC at *
  have HX := hide hx
  have HY2 := hide hy
  have HOI := hide hoi
  have HST := hide hst
  have HRO := hide hro
  have HAT := hide hat
  have HSP := hide hsp
  have HNE := hide hne
  have HEN := hide hen
  have HY := hide hY
  have HJ := hide h0
  have HJA := hide hJ
  have HJX := hide hJx
  have HSs := hide hSs
  have HSp := hide hSp
  have HSt := hide hSt
  have HSV := hide hSV
  have Bs0 := hide Bs
  have Bp0 := hide Bp
  have Bt0 := hide Bt
  clear hx hy hoi hst hro hat hsp hne hen hY h0 hJ hJx hSs hSp hSt hSV Bs Bp Bt
  clear hx0 hy0 hV hSw hN2 hx1 hy1
  refine callsIn_of_wp Try.func71 rfl trivial ?_
  simp only [Try.ntmps71, List.size_toArray, List.length_cons, List.length_nil, Nat.reduceAdd, Nat.reduceSub, Array.replicate_succ, Array.replicate_zero, List.push_toArray, List.append_toArray, List.nil_append, List.cons_append]
  have BV := hide Bs0.out
  have HK := hide (Below.refl V.heap.size V)
  have s0 := Bs0.out.c 0 rfl
  have s1 := Bs0.out.c 1 rfl
  have s2 := Bs0.out.c 2 rfl
  have s3 := Bs0.out.c 3 rfl
  have s4 := Bs0.out.c 4 rfl
  have s5 := Bs0.out.c 5 rfl
  have s6 := Bs0.out.c 6 rfl
  have s7 := Bs0.out.c 7 rfl
  have s8 := Bs0.out.c 8 rfl
  have s9 := Bs0.out.c 9 rfl
  have s10 := Bs0.out.c 10 rfl
  have s11 := Bs0.out.c 11 rfl
  have lts := Bs0.out.lt
  have q0 := Bp0.out.c 0 rfl
  have ltq := Bp0.out.lt
  gi_wp2_with fail
  refine wpIn_wide.2 ?_
  go_quiet (fail)
  have hL : Below V.heap.size V (V.drewN nq) := below_drewN (Below.refl _ _) _
  simp only [hm1, hm2]
  obtain ⟨V1, hV1⟩ : ∃ V1, V.drewN nq = V1 := ⟨_, rfl⟩
  rw [hV1] at hL
  simp only [hV1]
  clear hV1
  replace Bs0 := hide (blk_later Bs0.out hL)
  replace Bp0 := hide (blk_later Bp0.out hL)
  replace Bt0 := hide (blk_later Bt0.out hL)
  replace HK := hide (onward HK.out hL)
  clear hL s0 s1 s2 s3 s4 s5 s6 s7 s8 s9 s10 s11 lts q0 ltq
  have s0 := Bs0.out.c 0 rfl
  have s1 := Bs0.out.c 1 rfl
  have s2 := Bs0.out.c 2 rfl
  have s3 := Bs0.out.c 3 rfl
  have s4 := Bs0.out.c 4 rfl
  have s5 := Bs0.out.c 5 rfl
  have s6 := Bs0.out.c 6 rfl
  have s7 := Bs0.out.c 7 rfl
  have s8 := Bs0.out.c 8 rfl
  have s9 := Bs0.out.c 9 rfl
  have s10 := Bs0.out.c 10 rfl
  have s11 := Bs0.out.c 11 rfl
  have lts := Bs0.out.lt
  have q0 := Bt0.out.c 0 rfl
  have ltq := Bt0.out.lt
  gi_wp2_with fail
  refine ⟨trivial, ?_⟩
  refine (callsIn_wide.2 (HX.out _)).mono ?_
  rintro e w2 ⟨rfl, hb⟩
  replace Bs0 := hide (blk_later Bs0.out hb)
  replace Bp0 := hide (blk_later Bp0.out hb)
  replace Bt0 := hide (blk_later Bt0.out hb)
  replace HK := hide (onward HK.out hb)
  clear hb s0 s1 s2 s3 s4 s5 s6 s7 s8 s9 s10 s11 lts q0 ltq
  have s0 := Bs0.out.c 0 rfl
  have s1 := Bs0.out.c 1 rfl
  have s2 := Bs0.out.c 2 rfl
  have s3 := Bs0.out.c 3 rfl
  have s4 := Bs0.out.c 4 rfl
  have s5 := Bs0.out.c 5 rfl
  have s6 := Bs0.out.c 6 rfl
  have s7 := Bs0.out.c 7 rfl
  have s8 := Bs0.out.c 8 rfl
  have s9 := Bs0.out.c 9 rfl
  have s10 := Bs0.out.c 10 rfl
  have s11 := Bs0.out.c 11 rfl
  have lts := Bs0.out.lt
  have q0 := Bt0.out.c 0 rfl
  have ltq := Bt0.out.lt
  gi_wp2_with fail
  refine ⟨trivial, ?_⟩
  refine (callsIn_wide.2 (HY2.out _)).mono ?_
  rintro e w3 ⟨rfl, hb⟩
  replace Bs0 := hide (blk_later Bs0.out hb)
  replace Bp0 := hide (blk_later Bp0.out hb)
  replace Bt0 := hide (blk_later Bt0.out hb)
  replace HK := hide (onward HK.out hb)
  clear hb s0 s1 s2 s3 s4 s5 s6 s7 s8 s9 s10 s11 lts q0 ltq
  clear HX HY2 Bp0 Bt0
  have s0 := Bs0.out.c 0 rfl
  have s1 := Bs0.out.c 1 rfl
  have s2 := Bs0.out.c 2 rfl
  have s3 := Bs0.out.c 3 rfl
  have s4 := Bs0.out.c 4 rfl
  have s5 := Bs0.out.c 5 rfl
  have s6 := Bs0.out.c 6 rfl
  have s7 := Bs0.out.c 7 rfl
  have s8 := Bs0.out.c 8 rfl
  have s9 := Bs0.out.c 9 rfl
  have s10 := Bs0.out.c 10 rfl
  have s11 := Bs0.out.c 11 rfl
  have lts := Bs0.out.lt
  have hj3 := abides_below HJA.out HJ.out HK.out
  have hk3 := KeptS.of_below HK.out HSV.out
  clear HK
  have HJ3 := hide hj3
  have HK3 := hide hk3
  clear hj3 hk3
  have hob : (decide (xa < 0) || decide ((W : Int) ≤ xb) || decide (ya < 0) || decide ((H : Int) ≤ yb)) = outB W H ⟨lx, rx, ly, ry⟩ p := by
    rw [Bool.eq_iff_iff, HOI.out]
    simp [or_assoc]
  have hz0 := srcP_zero (W := W) (H := H) (p := p) (c := ⟨lx, rx, ly, ry⟩)
  obtain ⟨ov, hov⟩ : ∃ b, outB W H ⟨lx, rx, ly, ry⟩ p = b := ⟨_, rfl⟩
  rw [hov] at hob hz0
  have HOB := hide hob
  have HZ0 := hide hz0
  have HOV := hide hov
  clear hob hz0 hov
  gi_upto_region 3 with fail
  gi_cut [11] from 42 (fun v wc => v = .bool ov ∧ wc = w3)
  case first =>
    have hb := HOB.out
    by_cases c1 : xa < 0
    · gi_wp2_with fail
      gi_meet
      case rel => exact ⟨by rw [← hb]; simp [c1], rfl⟩
    by_cases c2 : (W : Int) ≤ xb
    · gi_wp2_with fail
      gi_meet
      case rel => exact ⟨by rw [← hb]; simp [c1, c2], rfl⟩
    by_cases c3 : ya < 0
    · gi_wp2_with fail
      gi_meet
      case rel => exact ⟨by rw [← hb]; simp [c1, c2, c3], rfl⟩
    by_cases c4 : (H : Int) ≤ yb
    · gi_wp2_with fail
      gi_meet
      case rel => exact ⟨by rw [← hb]; simp [c1, c2, c3, c4], rfl⟩
    · gi_wp2_with fail
      gi_meet
      case rel => exact ⟨by rw [← hb, decide_eq_false (show ¬ xa < 0 by omega), decide_eq_false (show ¬ (W : Int) ≤ xb by omega), decide_eq_false (show ¬ ya < 0 by omega), decide_eq_false (show ¬ (H : Int) ≤ yb by omega)]; rfl, rfl⟩
  case rest =>
    obtain ⟨rfl, rfl⟩ := hcut
    have hz0 := HZ0.out
    cases ov with
    | false =>
      rw [if_neg (by decide)] at hz0
      have HI := hide (show SrcI S V J (vn * W) wc from ⟨[], by rw [HST.out, hz0]; rfl, HJ3.out, HK3.out⟩)
      clear hz0 HZ0 HJ HJ3 HK3 HOI HOB HOV
      gi_wp2_with (refine wpListIn_skip (by rfl) (by rfl) ?_)
      gi_loopw [12] (fun v wr => ∃ k : Nat, v = .int .i64 (k : Nat) ∧ vn ≤ k ∧ k ≤ 20000 ∧ Hid (SrcI S V J (k * W) wr)) (fun v _ => (vh + 1 - intOf v).toNat)
      case atStart => exact ⟨vn, rfl, Nat.le_refl _, hvn2, HI⟩
      case round =>
        clear HI
        obtain ⟨k, rfl, hvk, hk2, HI⟩ := hrel
        obtain ⟨pre, hpre, hj, hk⟩ := HI.out
        have s3 := (blk_keptS BV.out hk HSs.out).c 3 rfl
        have s4 := (blk_keptS BV.out hk HSs.out).c 4 rfl
        have lts := (blk_keptS BV.out hk HSs.out).lt
        by_cases hkv : (k : Int) ≤ vh
        · have hki : (vn : Int) ≤ k := by omega
          have hk7 : (k : Int) ≤ 7 := by omega
          have HIR := hide (show SrcI S V J (k * W + min un W) wr from ⟨pre, hpre.trans (HRO.out k).symm, hj, hk⟩)
          clear HI hpre hj hk
          gi_wp2_with fail
          clear s3 s4 lts
          gi_loopw [13] (fun u wr => ∃ j : Nat, u = .int .i64 (j : Nat) ∧ un ≤ j ∧ j ≤ 20000 ∧ Hid (SrcI S V J (k * W + min j W) wr)) (fun u _ => (uh + 1 - intOf u).toNat)
          case atStart => exact ⟨un, rfl, Nat.le_refl _, hun2, HIR⟩
          case round =>
            clear HIR
            obtain ⟨j, rfl, huj, hj2, HI⟩ := hrel
            obtain ⟨pre, hpre, hj, hk⟩ := HI.out
            have s3 := (blk_keptS BV.out hk HSs.out).c 3 rfl
            have lts := (blk_keptS BV.out hk HSs.out).lt
            by_cases hju : (j : Int) ≤ uh
            · have hji : (un : Int) ≤ j := by omega
              have hj7 : (j : Int) ≤ 7 := by omega
              obtain ⟨hjW, hkH, hlt, hsr⟩ := HAT.out k j hki hkv hji hju
              have hpn := HSP.out k j hki hkv hji hju
              have hmj : min j W = j := by omega
              rw [hmj] at hpre hpn
              obtain ⟨q, hq⟩ : ∃ q, k * W = q := ⟨_, rfl⟩
              have hqI : (k : Int) * (W : Int) = (q : Int) := by rw [← hq]; push_cast; rfl
              have hq64 : q ≤ 64 := by
                rw [← hq]
                exact Nat.mul_le_mul (show k ≤ 8 by omega) hW8
              rw [hq] at hlt hsr hpre hpn
              have hroom := srcP_room hlt hsr
              obtain ⟨z, hz⟩ : ∃ z : InS W H ⟨lx, rx, ly, ry⟩ p, z.1 = ((q + j : Nat) : Int) := ⟨⟨_, srcL_at hlt hsr⟩, rfl⟩
              have hpx := srcP_le (W := W) (H := H) (c := ⟨lx, rx, ly, ry⟩) (p := p) (show q + j + 1 ≤ W * H from hlt)
              rw [srcP_take hsr] at hpx
              have hY4 := HY.out pre z wr hj (by rw [← List.length_map (f := fun z : InS W H ⟨lx, rx, ly, ry⟩ p => z.1), hpre]; exact hroom)
              have hzI : z.1 = (q : Int) + (j : Int) := by rw [hz]; push_cast; rfl
              simp only [hzI] at hY4
              obtain ⟨fn, tmps, assign, body, hy, hR⟩ := hY4
              have HR := hide hR
              have HPRE := hide hpre
              have HPN := hide hpn
              have HK0 := hide hk
              have HZ := hide hz
              have HPX := hide hpx
              have HZI := hide hzI
              have HQ := hide hq
              clear hR hpre hpn hk hz hpx hzI hq
              clear hj hlt hsr HI hroom
              gi_wp2_with fail
              refine HR.out.mono ?_
              rintro e V5 (⟨rfl, hJ5, hk5⟩ | ⟨rfl, hJ5⟩)
              · have HI2 := hide (show SrcI S V J (k * W + min (j + 1) W) V5 from ⟨_, by rw [List.map_append, HPRE.out, HQ.out, HPN.out, ← HZ.out]; rfl, hJ5, HK0.out.trans hk5⟩)
                clear hy HR hJ5 hk5 s3 lts
                gi_wp2_with fail
                go_roundw
                case rel => exact ⟨j + 1, by go_num, by omega, by omega, HI2⟩
                case measure => simp [intOf] <;> omega
              · have HX5 := hide hJ5
                clear hy HR hJ5
                gi_wp2_with fail
                refine bodyPost_ret (results_none rfl _ _ _) rfl ?_
                refine ⟨⟨_, rfl⟩, .inr ⟨_, ?_, HX5.out⟩⟩
                rw [List.map_append, HPRE.out]
                have h9 := HPX.out
                rw [← HZ.out] at h9
                exact h9
            · have HIN := hide (show SrcI S V J ((k + 1) * W) wr from ⟨pre, hpre.trans (HNE.out k j (by omega)).symm, hj, hk⟩)
              clear HI hpre hj hk
              gi_wp2_with fail
              go_roundw
              case rel => exact ⟨k + 1, by go_num, by omega, by omega, HIN⟩
              case measure => simp [intOf] <;> omega
        · have hful := hpre.trans (HEN.out k (by omega))
          have HFUL := hide hful
          have HJF := hide hj
          clear hful hj
          clear hk HI
          gi_wp2_with fail
          go_end0
          exact ⟨⟨_, rfl⟩, .inl ⟨pre, HFUL.out, HJF.out⟩⟩
    | true =>
      rw [if_pos rfl] at hz0
      obtain ⟨z, hz⟩ : ∃ z : InS W H ⟨lx, rx, ly, ry⟩ p, z.1 = -1 := ⟨⟨_, srcL_out HOV.out⟩, rfl⟩
      have hY4 := HY.out [] z wc HJ3.out (by simp)
      simp only [hz] at hY4
      obtain ⟨fn, tmps, assign, body, hy, hR⟩ := hY4
      have hpx := srcP_le (W := W) (H := H) (c := ⟨lx, rx, ly, ry⟩) (p := p) (Nat.zero_le (W * H))
      rw [hz0, ← hz] at hpx
      have HR := hide hR
      have HZ := hide hz
      have HZ1 := hide hz0
      have HPX := hide hpx
      clear hR hz hz0 hpx
      clear HJ3 HJ HZ0
      gi_wp2_with fail
      refine HR.out.mono ?_
      rintro e V5 (⟨rfl, hJ5, hk5⟩ | ⟨rfl, hJ5⟩)
      · have HI := hide (show SrcI S V J (vn * W) V5 from ⟨[z], by rw [HST.out, HZ1.out, ← HZ.out]; rfl, hJ5, HK3.out.trans hk5⟩)
        clear hy HR hJ5 hk5
        clear s0 s1 s2 s3 s4 s5 s6 s7 s8 s9 s10 s11 lts
        have s4 := (blk_keptS BV.out (show KeptS S V V5 from HI.out.choose_spec.2.2) HSs.out).c 4 rfl
        clear HOI HOB HOV
        gi_wp2_with (refine wpListIn_skip (by rfl) (by rfl) ?_)
        gi_loopw [12] (fun v wr => ∃ k : Nat, v = .int .i64 (k : Nat) ∧ vn ≤ k ∧ k ≤ 20000 ∧ Hid (SrcI S V J (k * W) wr)) (fun v _ => (vh + 1 - intOf v).toNat)
        case atStart => exact ⟨vn, rfl, Nat.le_refl _, hvn2, HI⟩
        case round =>
          clear HI
          obtain ⟨k, rfl, hvk, hk2, HI⟩ := hrel
          obtain ⟨pre, hpre, hj, hk⟩ := HI.out
          have s3 := (blk_keptS BV.out hk HSs.out).c 3 rfl
          have s4 := (blk_keptS BV.out hk HSs.out).c 4 rfl
          have lts := (blk_keptS BV.out hk HSs.out).lt
          by_cases hkv : (k : Int) ≤ vh
          · have hki : (vn : Int) ≤ k := by omega
            have hk7 : (k : Int) ≤ 7 := by omega
            have HIR := hide (show SrcI S V J (k * W + min un W) wr from ⟨pre, hpre.trans (HRO.out k).symm, hj, hk⟩)
            clear HI hpre hj hk
            gi_wp2_with fail
            clear s3 s4 lts
            gi_loopw [13] (fun u wr => ∃ j : Nat, u = .int .i64 (j : Nat) ∧ un ≤ j ∧ j ≤ 20000 ∧ Hid (SrcI S V J (k * W + min j W) wr)) (fun u _ => (uh + 1 - intOf u).toNat)
            case atStart => exact ⟨un, rfl, Nat.le_refl _, hun2, HIR⟩
            case round =>
              clear HIR
              obtain ⟨j, rfl, huj, hj2, HI⟩ := hrel
              obtain ⟨pre, hpre, hj, hk⟩ := HI.out
              have s3 := (blk_keptS BV.out hk HSs.out).c 3 rfl
              have lts := (blk_keptS BV.out hk HSs.out).lt
              by_cases hju : (j : Int) ≤ uh
              · have hji : (un : Int) ≤ j := by omega
                have hj7 : (j : Int) ≤ 7 := by omega
                obtain ⟨hjW, hkH, hlt, hsr⟩ := HAT.out k j hki hkv hji hju
                have hpn := HSP.out k j hki hkv hji hju
                have hmj : min j W = j := by omega
                rw [hmj] at hpre hpn
                obtain ⟨q, hq⟩ : ∃ q, k * W = q := ⟨_, rfl⟩
                have hqI : (k : Int) * (W : Int) = (q : Int) := by rw [← hq]; push_cast; rfl
                have hq64 : q ≤ 64 := by
                  rw [← hq]
                  exact Nat.mul_le_mul (show k ≤ 8 by omega) hW8
                rw [hq] at hlt hsr hpre hpn
                have hroom := srcP_room hlt hsr
                obtain ⟨z, hz⟩ : ∃ z : InS W H ⟨lx, rx, ly, ry⟩ p, z.1 = ((q + j : Nat) : Int) := ⟨⟨_, srcL_at hlt hsr⟩, rfl⟩
                have hpx := srcP_le (W := W) (H := H) (c := ⟨lx, rx, ly, ry⟩) (p := p) (show q + j + 1 ≤ W * H from hlt)
                rw [srcP_take hsr] at hpx
                have hY4 := HY.out pre z wr hj (by rw [← List.length_map (f := fun z : InS W H ⟨lx, rx, ly, ry⟩ p => z.1), hpre]; exact hroom)
                have hzI : z.1 = (q : Int) + (j : Int) := by rw [hz]; push_cast; rfl
                simp only [hzI] at hY4
                obtain ⟨fn, tmps, assign, body, hy, hR⟩ := hY4
                have HR := hide hR
                have HPRE := hide hpre
                have HPN := hide hpn
                have HK0 := hide hk
                have HZ := hide hz
                have HPX := hide hpx
                have HZI := hide hzI
                have HQ := hide hq
                clear hR hpre hpn hk hz hpx hzI hq
                clear hj hlt hsr HI hroom
                gi_wp2_with fail
                refine HR.out.mono ?_
                rintro e V5 (⟨rfl, hJ5, hk5⟩ | ⟨rfl, hJ5⟩)
                · have HI2 := hide (show SrcI S V J (k * W + min (j + 1) W) V5 from ⟨_, by rw [List.map_append, HPRE.out, HQ.out, HPN.out, ← HZ.out]; rfl, hJ5, HK0.out.trans hk5⟩)
                  clear hy HR hJ5 hk5 s3 lts
                  gi_wp2_with fail
                  go_roundw
                  case rel => exact ⟨j + 1, by go_num, by omega, by omega, HI2⟩
                  case measure => simp [intOf] <;> omega
                · have HX5 := hide hJ5
                  clear hy HR hJ5
                  gi_wp2_with fail
                  refine bodyPost_ret (results_none rfl _ _ _) rfl ?_
                  refine ⟨⟨_, rfl⟩, .inr ⟨_, ?_, HX5.out⟩⟩
                  rw [List.map_append, HPRE.out]
                  have h9 := HPX.out
                  rw [← HZ.out] at h9
                  exact h9
              · have HIN := hide (show SrcI S V J ((k + 1) * W) wr from ⟨pre, hpre.trans (HNE.out k j (by omega)).symm, hj, hk⟩)
                clear HI hpre hj hk
                gi_wp2_with fail
                go_roundw
                case rel => exact ⟨k + 1, by go_num, by omega, by omega, HIN⟩
                case measure => simp [intOf] <;> omega
          · have hful := hpre.trans (HEN.out k (by omega))
            have HFUL := hide hful
            have HJF := hide hj
            clear hful hj
            clear hk HI
            gi_wp2_with fail
            go_end0
            exact ⟨⟨_, rfl⟩, .inl ⟨pre, HFUL.out, HJF.out⟩⟩
      · have HX5 := hide hJ5
        clear hy HR hJ5
        gi_wp2_with fail
        refine bodyPost_ret (results_none rfl _ _ _) rfl ?_
        exact ⟨⟨_, rfl⟩, .inr ⟨[z], HPX.out, HX5.out⟩⟩
end Go.Proofs.Ytidbjidcjmbnlaa
end
section
namespace Go.Proofs.Ytidbjidcjmbnlaa

def flLo (u sec : Int) : Int := 1000 * (1000 * u - 0) / sec
def flHi (v sec : Int) : Int := cdiv (1000 * (1000 * v + 0)) sec
theorem flLo_mul {u sec : Int} (hs : 1 ≤ sec) : flLo u sec * sec ≤ 1000000 * u := by
  have h := Int.ediv_mul_le (1000 * (1000 * u - 0)) (show sec ≠ 0 by omega)
  unfold flLo
  omega
theorem flHi_mul {v sec : Int} (hs : 1 ≤ sec) : 1000000 * v ≤ flHi v sec * sec := by
  have h := Int.ediv_mul_le (-(1000 * (1000 * v + 0))) (show sec ≠ 0 by omega)
  unfold flHi cdiv
  rw [Int.neg_mul]
  omega
theorem flLo_ge {u sec : Int} (hs : 100 ≤ sec) (hu : -2 ≤ u) : -100000 ≤ flLo u sec := by
  unfold flLo
  exact (Int.le_ediv_iff_mul_le (by omega)).2 (by omega)
theorem flHi_le {v sec : Int} (hs : 100 ≤ sec) (hv : v ≤ 2) : flHi v sec ≤ 100000 := by
  unfold flHi cdiv
  have : -100000 ≤ -(1000 * (1000 * v + 0)) / sec := (Int.le_ediv_iff_mul_le (by omega)).2 (by omega)
  omega
theorem fl_le {u v sec : Int} (hs : 1 ≤ sec) (h : u ≤ v) : flLo u sec ≤ flHi v sec := by
  have h1 := flLo_mul (u := u) hs
  have h2 := flHi_mul (v := v) hs
  exact Int.le_of_mul_le_mul_right (a := sec) (by omega) (by omega)
theorem fl_ins {u v sec : Int} (hs : 100 ≤ sec) (hu : -2 ≤ u) (h : u ≤ v) (hv : v ≤ 2) : insB (flLo u sec) (flHi v sec) (-100000) 100000 = true := insB_ok (flLo_ge hs hu) (fl_le (by omega) h) (flHi_le hs hv)
theorem come_lo {u m sec P : Int} (hs : 1 ≤ sec) (h : u ≤ m) (hP : flLo u sec * sec = P) : (P - 1000000) / 1000000 + 1 ≤ m := by
  have h1 := flLo_mul (u := u) hs
  omega
theorem come_hi {v m sec Q : Int} (hs : 1 ≤ sec) (h : m ≤ v) (hQ : flHi v sec * sec = Q) : m ≤ cdiv (Q + 1000000) 1000000 - 1 := by
  have h1 := flHi_mul (v := v) hs
  unfold cdiv
  omega
end Go.Proofs.Ytidbjidcjmbnlaa
end
section
namespace Go.Proofs.Ytidbjidcjmbnlaa
open Go Go.RowKit

def inL (l : List Nat) (q : Nat) : Bool := decide (q ∈ l)
/-- A cloud. -/
structure Cld where
  As : Option Addr
  Am : Option Addr
  ns : Nat
  cs : Nat
  nm : Nat
  cm : Nat
  xd : Int
  xu : Int
  yd : Int
  yu : Int
  sl : List Nat
  ml : List Nat
def Cld.cells (c : Cld) : List Value := [.slice c.As c.ns c.cs, .slice c.Am c.nm c.cm, .int .i64 c.xd, .int .i64 c.xu, .int .i64 c.yd, .int .i64 c.yu, .int .i64 0]
def cldCells (L : List Cld) : List Value := L.flatMap Cld.cells
structure Cld.Ok (c : Cld) (N : Nat) : Prop where
  ns : c.sl.length = c.ns
  nm : c.ml.length = c.nm
  m0 : 1 ≤ c.nm
  mN : ∀ p ∈ c.ml, p < N
  mr : c.ml.Pairwise (· < ·)
  sr : c.sl.Pairwise (· < ·)
  sm : ∀ p ∈ c.sl, p ∈ c.ml
  fx : insB c.xd c.xu (-100000) 100000 = true
  fy : insB c.yd c.yu (-100000) 100000 = true
def CldAt (V : World) (base : Nat) (c : Cld) : Prop := V.ownsRow base 3 1 (.slice c.As c.ns c.cs) c.ns (numsV c.sl) ∧ V.ownsRow base 3 1 (.slice c.Am c.nm c.cm) c.nm (numsV c.ml)
theorem CldAt.later {V V' : World} {base : Nat} {c : Cld} (h : CldAt V base c) (hB : Below V.heap.size V V') : CldAt V' base c := ⟨own_belowT h.1 hB, own_belowT h.2 hB⟩
/-- A cloud's shape. -/
structure Shp where
  c : Cld
  gS : Nat
  gM : Nat
  cS : Nat
  cM : Nat
def Shp.cells (gx gy gs : Int) (W H : Nat) (y : Shp) : List Value := [.int .i64 gx, .int .i64 gy, .int .i64 gs, .int .i64 (W : Nat), .int .i64 (H : Nat), .map (some y.gS), .map (some y.gM), .int .i64 y.c.xd, .int .i64 y.c.xu, .int .i64 y.c.yd, .int .i64 y.c.yu, .int .i64 0]
def shpCells (gx gy gs : Int) (W H : Nat) (Y : List Shp) : List Value := Y.flatMap (Shp.cells gx gy gs W H)
def ShpAt (V : World) (y : Shp) : Prop := MapK V Try.prog 3 izL okI y.gS (setF y.c.sl) y.cS ∧ MapK V Try.prog 3 izL okI y.gM (setF y.c.ml) y.cM
theorem ShpAt.later {V V' : World} {y : Shp} (h : ShpAt V y) (hB : Below V.heap.size V V') : ShpAt V' y := ⟨h.1.stab (hB.block _ h.1.lt), h.2.stab (hB.block _ h.2.lt)⟩
theorem mapk_map {w : World} {g c : Nat} {f : Int → Option Value} (h : MapK w Try.prog 3 izL okI g f c) : ∃ es k, w.heap[g]? = some (.map es k) := by
  obtain ⟨D, ⟨es, clock, hb, r⟩, h2⟩ := h
  exact ⟨es, clock, hb⟩
/-- Behind an append to a row. -/
theorem ShpAt.grown {V V' : World} {y : Shp} {base : Nat} {e : TypeId} {size n : Nat} {v : Value} {xs : List Value} (h : ShpAt V y) (ho : V.ownsRow base e size v n xs) (hg : V.grownBy V' v.ownBlock) : ShpAt V' y := by
  have hk : ∀ g f c, MapK V Try.prog 3 izL okI g f c → MapK V' Try.prog 3 izL okI g f c := fun g f c hm => hm.stab (hg.block g hm.lt fun e => by
    obtain ⟨es, k, hb⟩ := mapk_map hm
    rcases ho.2 with ⟨hv, -⟩ | ⟨g', cap, cur, hv, -, hh, -⟩
    · rw [hv] at e; cases e
    · rw [hv] at e
      have : g = g' := Option.some.inj e
      subst this
      rw [hh] at hb
      cases hb)
  exact ⟨hk _ _ _ h.1, hk _ _ _ h.2⟩
def ShpsAt (V : World) (Y : List Shp) : Prop := ∀ y ∈ Y, ShpAt V y
theorem ShpsAt.later {V V' : World} {Y : List Shp} (h : ShpsAt V Y) (hB : Below V.heap.size V V') : ShpsAt V' Y := fun y hy => (h y hy).later hB
theorem ShpsAt.grow {V V' : World} {Y : List Shp} {o : Obj} {base : Nat} {e : TypeId} {size n : Nat} {v : Value} {xs : List Value} (h : ShpsAt V Y) (ho : V.ownsRow base e size v n xs) (hg : (V.alloc o).grownBy V' v.ownBlock) : ShpsAt V' Y := fun y hy =>
  ((h y hy).later ((Below.refl _ _).alloc (Nat.le_refl _) _)).grown (ho.alloc _) hg
theorem ShpsAt.snoc {V : World} {Y : List Shp} {y : Shp} (h : ShpsAt V Y) (hy : ShpAt V y) : ShpsAt V (Y ++ [y]) := fun z hz => by
  rcases List.mem_append.1 hz with h1 | h1
  · exact h z h1
  · rw [List.mem_singleton.1 h1]; exact hy
section
variable {α : Type} {F : α → List Value} {m : Nat}
theorem flat_len (hF : ∀ x, (F x).length = m) : ∀ L : List α, (L.flatMap F).length = L.length * m
  | [] => by simp
  | x :: L => by rw [List.flatMap_cons, List.length_append, hF, flat_len hF L, List.length_cons, Nat.add_mul, Nat.one_mul, Nat.add_comm]
theorem flat_get (hF : ∀ x, (F x).length = m) : ∀ {L : List α} {k : Nat} {x : α} {j : Nat}, L[k]? = some x → j < m → (L.flatMap F)[k * m + j]? = (F x)[j]?
  | [], _, _, _, h, _ => by simp at h
  | y :: L, 0, x, j, h, hj => by
    simp at h
    subst h
    rw [Nat.zero_mul, Nat.zero_add, List.flatMap_cons, List.getElem?_append_left (by rw [hF]; exact hj)]
  | y :: L, k + 1, x, j, h, hj => by
    rw [List.getElem?_cons_succ] at h
    rw [List.flatMap_cons, List.getElem?_append_right (by rw [hF, Nat.add_mul, Nat.one_mul]; omega), hF, show (k + 1) * m + j - m = k * m + j by rw [Nat.add_mul, Nat.one_mul]; omega]
    exact flat_get hF h hj
end
theorem cldCells_len (L : List Cld) : (cldCells L).length = L.length * 7 := flat_len (F := Cld.cells) (fun _ => rfl) L
theorem cldCells_get {L : List Cld} {k : Nat} {c : Cld} {j : Nat} (h : L[k]? = some c) (hj : j < 7) : (cldCells L)[k * 7 + j]? = c.cells[j]? := flat_get (F := Cld.cells) (fun _ => rfl) h hj
theorem cldCells_app (L : List Cld) (c : Cld) : cldCells (L ++ [c]) = cldCells L ++ c.cells := by
  unfold cldCells
  rw [List.flatMap_append]
  simp
theorem shpCells_get {gx gy gs : Int} {W H : Nat} {Y : List Shp} {k : Nat} {y : Shp} {j : Nat} (h : Y[k]? = some y) (hj : j < 12) : (shpCells gx gy gs W H Y)[k * 12 + j]? = (y.cells gx gy gs W H)[j]? := flat_get (F := Shp.cells gx gy gs W H) (fun _ => rfl) h hj
theorem shpCells_app (gx gy gs : Int) (W H : Nat) (Y : List Shp) (y : Shp) : shpCells gx gy gs W H (Y ++ [y]) = shpCells gx gy gs W H Y ++ y.cells gx gy gs W H := by
  unfold shpCells
  rw [List.flatMap_append]
  simp
/-- By how much a cloud can have come. -/
def comeOf (c : Cld) (t : Int) : Come := ⟨(c.xd * t - 1000000) / 1000000 + 1, cdiv (c.xu * t + 1000000) 1000000 - 1, (c.yd * t - 1000000) / 1000000 + 1, cdiv (c.yu * t + 1000000) 1000000 - 1⟩
def stC (W H : Nat) (t : Int) (p : Nat) (c : Cld) : Nat := stateN W H (comeOf c t) (inL c.sl) (inL c.ml) p
/-- The state of a pixel among clouds. -/
def stA (W H : Nat) (t : Int) (L : List Cld) (p : Nat) : Nat := L.foldl (fun m c => max m (stC W H t p c)) 0
theorem stC_le {W H : Nat} {t : Int} {p : Nat} {c : Cld} : stC W H t p c ≤ 2 := by
  unfold stC stateN
  split
  · omega
  · split <;> omega
theorem foldmax_le {α : Type} {f : α → Nat} {B : Nat} (hf : ∀ x, f x ≤ B) : ∀ (L : List α) (m : Nat), m ≤ B → L.foldl (fun m c => max m (f c)) m ≤ B
  | [], m, h => h
  | x :: L, m, h => foldmax_le hf L (max m (f x)) (by have := hf x; omega)
theorem foldmax_ge {α : Type} {f : α → Nat} : ∀ (L : List α) (m : Nat), m ≤ L.foldl (fun m c => max m (f c)) m ∧ ∀ x ∈ L, f x ≤ L.foldl (fun m c => max m (f c)) m
  | [], m => ⟨Nat.le_refl _, fun x h => absurd h List.not_mem_nil⟩
  | y :: L, m => by
    obtain ⟨h1, h2⟩ := foldmax_ge (f := f) L (max m (f y))
    refine ⟨by rw [List.foldl_cons]; omega, fun x hx => ?_⟩
    rw [List.foldl_cons]
    rcases List.mem_cons.1 hx with rfl | hx
    · omega
    · exact h2 x hx
theorem foldmax_is {α : Type} {f : α → Nat} : ∀ (L : List α) (m : Nat), L.foldl (fun m c => max m (f c)) m = m ∨ ∃ x ∈ L, L.foldl (fun m c => max m (f c)) m = f x
  | [], m => .inl rfl
  | y :: L, m => by
    rw [List.foldl_cons]
    rcases foldmax_is L (max m (f y)) with h | ⟨x, hx, h⟩
    · rw [h]
      by_cases e : m ≤ f y
      · exact .inr ⟨y, List.mem_cons_self, by omega⟩
      · exact .inl (by omega)
    · exact .inr ⟨x, List.mem_cons_of_mem _ hx, h⟩
theorem stA_le {W H : Nat} {t : Int} {L : List Cld} {p : Nat} : stA W H t L p ≤ 2 := foldmax_le (fun _ => stC_le) L 0 (Nat.zero_le _)
theorem stA_ge {W H : Nat} {t : Int} {L : List Cld} {p : Nat} {c : Cld} (h : c ∈ L) : stC W H t p c ≤ stA W H t L p := (foldmax_ge L 0).2 c h
theorem stA_is {W H : Nat} {t : Int} {L : List Cld} {p : Nat} (h : stA W H t L p ≠ 0) : ∃ c ∈ L, stA W H t L p = stC W H t p c := by
  rcases foldmax_is L 0 with h1 | h1
  · exact absurd h1 h
  · exact h1
theorem stA_take {W H : Nat} {t : Int} {L : List Cld} {p k : Nat} {c : Cld} (h : L[k]? = some c) : stA W H t (L.take (k + 1)) p = max (stA W H t (L.take k) p) (stC W H t p c) := by
  unfold stA
  rw [List.take_add_one, h, List.foldl_append]
  rfl
theorem come_bd {lo t : Int} (h : -100000 ≤ lo ∧ lo ≤ 100000) (ht : 0 ≤ t ∧ t ≤ 7200) : -1000000000 ≤ lo * t ∧ lo * t ≤ 1000000000 := by
  have h1 := Int.mul_le_mul_of_nonneg_right h.2 ht.1
  have h2 := Int.mul_le_mul_of_nonneg_right h.1 ht.1
  omega
theorem ins_bd {l h : Int} (hi : insB l h (-100000) 100000 = true) : (-100000 ≤ l ∧ l ≤ 100000) ∧ (-100000 ≤ h ∧ h ≤ 100000) := by
  unfold insB at hi
  simp only [Bool.and_eq_true, decide_eq_true_iff] at hi
  omega
end Go.Proofs.Ytidbjidcjmbnlaa
end
