/-
  The clouds of the areas of a map: plain words, and what is told of an area.
  The clouds of the areas of a map: the loop over the areas.
  The clouds of the areas of a map: books in memory, and what is known of each area.
  The clouds of the areas of a map.
  Rain that moves evenly contradicts no forecast: plain words.
  The example of rain that moves.
-/
import Derived.Test.YtidbjidcjmbnlaaTmKnown
import Derived.Test.YtidbjidcjmbnlaaTmNew
import Derived.Test.YtidbjidcjmbnlaaTmHull
import Derived.Test.YtidbjidcjmbnlaaTmChgM
import Derived.Test.YtidbjidcjmbnlaaTmCount
import Derived.Test.YtidbjidcjmbnlaaRegC
import Derived.Deep.Cut
import Derived.BigQuiet
import Derived.Test.YtidbjidcjmbnlaaRegK
set_option linter.unusedSimpArgs false
set_option linter.unusedVariables false
section
namespace Go.Proofs.Ytidbjidcjmbnlaa
open Go Go.RowKit
attribute [local go_sem] Oper.semAt_some

/-- A row of numbers lies as it lay behind an append to a row of another kind. -/
theorem own_neT {V V' : World} {b b' : Nat} {e e' : TypeId} {size size' n n' : Nat} {v v' : Value} {xs xs' : List Value} {o : Obj} (h : V.ownsRow b e size v n xs) (h' : V.ownsRow b' e' size' v' n' xs') (ht : e ≠ e') (hg : (V.alloc o).grownBy V' v'.ownBlock) : V'.ownsRow b e size v n xs := by
  obtain ⟨hl, hr⟩ := h
  rcases hr with h0 | hr
  · exact ⟨hl, .inl h0⟩
  · refine own_grown (World.ownsRow.alloc (show V.ownsRow b e size v n xs from ⟨hl, .inr hr⟩) _) hg ?_
    obtain ⟨g, cap, cur, h1, -, hh, -⟩ := hr
    intro hv
    rcases h'.2 with ⟨h2, -⟩ | ⟨g', cap', cur', h2, -, hh', -⟩
    · rw [h1, h2] at hv; cases hv
    · rw [h1, h2] at hv
      have hgg : g = g' := Option.some.inj hv
      subst hgg
      rw [hh] at hh'
      injection hh' with hh'
      injection hh' with _ hh' _
      exact ht hh'
theorem CldAt.grow {V V' : World} {base b' : Nat} {size' n' : Nat} {v' : Value} {xs' : List Value} {o : Obj} {c : Cld} (h : CldAt V base c) (h' : V.ownsRow b' 76 size' v' n' xs') (hg : (V.alloc o).grownBy V' v'.ownBlock) : CldAt V' base c :=
  ⟨own_neT h.1 h' (by decide) hg, own_neT h.2 h' (by decide) hg⟩
def CldsAt (V : World) (base : Nat) (L : List Cld) : Prop := ∀ c ∈ L, CldAt V base c
theorem CldsAt.later {V V' : World} {base : Nat} {L : List Cld} (h : CldsAt V base L) (hB : Below V.heap.size V V') : CldsAt V' base L := fun c hc => (h c hc).later hB
theorem CldsAt.snoc {V : World} {base : Nat} {L : List Cld} {c : Cld} (h : CldsAt V base L) (hc : CldAt V base c) : CldsAt V base (L ++ [c]) := fun d hd => by
  rcases List.mem_append.1 hd with h1 | h1
  · exact h d h1
  · rw [List.mem_singleton.1 h1]; exact hc
theorem CldsAt.grow {V V' : World} {base b' : Nat} {size' n' : Nat} {v' : Value} {xs' : List Value} {o : Obj} {L : List Cld} (h : CldsAt V base L) (h' : V.ownsRow b' 76 size' v' n' xs') (hg : (V.alloc o).grownBy V' v'.ownBlock) : CldsAt V' base L := fun c hc => (h c hc).grow h' hg
theorem cloudInfo : (Try.prog.info? 76).map (fun i => (i.zero, i.size, i.bytes)) = some (some (.agg #[.slice none 0 0, .slice none 0 0, .int .i64 0, .int .i64 0, .int .i64 0, .int .i64 0, .int .i64 0]), 7, 88) := by kernel_rfl
def CofRg (i B : Nat) (kl : List (Value × List Nat)) (ml : List Nat) (np : Nat) (x : Nat → Par) (F : Nat → Prop) (w : World) : Prop := ∃ sl : List Nat, sl.length = (x i 1).2 ∧ sl.Pairwise (· < ·) ∧ (∀ p, p ∈ sl ↔ p ∈ kl.flatMap (·.2)) ∧ OwnF w F B 3 1 (.slice (x i 0).1 (x i 1).2 (x i 0).2) (x i 1).2 (numsV sl) ∧ OwnF w F B 3 1 (.slice (x i 2).1 np (x i 2).2) np (numsV ml)
theorem CofRg.owe {i B : Nat} {kl : List (Value × List Nat)} {ml : List Nat} {np : Nat} : (∀ x F w w', CofRg i B kl ml np x F w → w.heap.size ≤ w'.heap.size → (∀ k, F k → w'.heap[k]? = w.heap[k]?) → CofRg i B kl ml np x F w') ∧ (∀ (x x' : Nat → Par) F w, (x i = x' i) → CofRg i B kl ml np x F w → CofRg i B kl ml np x' F w) :=
  ⟨fun x F w w' h _ hk => by obtain ⟨c, a, b, d, e, f⟩ := h; exact ⟨c, a, b, d, e.stab hk, f.stab hk⟩, fun x x' F w hx h => by obtain ⟨c, a, b, d, e, f⟩ := h; rw [hx] at a e f; exact ⟨c, a, b, d, e, f⟩⟩
/-- What is known of the cloud of an area. -/
def ClG (N : Nat) (T mx my : Int) (s : Spr) (i : Nat) (c : Cld) : Prop := c.Ok N ∧ c.ml = s.pix.getD i [] ∧ (∀ p ∈ c.sl, ∃ y ∈ s.ki i, p ∈ y.2) ∧ ∃ ul uh vl vh : Int, (-2 ≤ ul ∧ ul ≤ mx ∧ mx ≤ uh ∧ uh ≤ 2) ∧ (-2 ≤ vl ∧ vl ≤ my ∧ my ≤ vh ∧ vh ≤ 2) ∧ c.xd = flLo ul T ∧ c.xu = flHi uh T ∧ c.yd = flLo vl T ∧ c.yu = flHi vh T
def ClsG (N : Nat) (T mx my : Int) (s : Spr) (L : List Cld) : Prop := ∀ i c, L[i]? = some c → ClG N T mx my s i c
theorem ClsG.nil {N : Nat} {T mx my : Int} {s : Spr} : ClsG N T mx my s [] := fun i c h => by simp at h
theorem ClsG.snoc {N : Nat} {T mx my : Int} {s : Spr} {L : List Cld} {c : Cld} (h : ClsG N T mx my s L) (hc : ClG N T mx my s L.length c) : ClsG N T mx my s (L ++ [c]) := fun i d hd => by
  by_cases e : i < L.length
  · rw [List.getElem?_append_left e] at hd
    exact h i d hd
  · rw [List.getElem?_append_right (by omega)] at hd
    have e2 : i = L.length := by
      have := (List.getElem?_eq_some_iff.1 hd).1
      simp at this
      omega
    subst e2
    rw [Nat.sub_self] at hd
    have := Option.some.inj hd
    subst this
    exact hc
theorem take_mem {α : Type} {l : List α} {j : Nat} {x y : α} [Decidable (x ∈ l.take (j + 1))] [Decidable (x ∈ l.take j)] [Decidable (y = x)] (h : l[j]? = some y) : decide (x ∈ l.take (j + 1)) = (decide (x ∈ l.take j) || decide (y = x)) := by
  rw [Bool.eq_iff_iff, Bool.or_eq_true, decide_eq_true_iff, decide_eq_true_iff, decide_eq_true_iff, List.take_add_one, h, List.mem_append]
  constructor
  · rintro (h1 | h1)
    · exact .inl h1
    · exact .inr (List.mem_singleton.1 h1).symm
  · rintro (h1 | h1)
    · exact .inl h1
    · exact .inr (List.mem_singleton.2 h1.symm)
/-- Behind a store into a block of another kind. -/
theorem own_setT {V : World} {b g : Nat} {e e' : TypeId} {size n : Nat} {v : Value} {xs : List Value} {cs : Array Value} (h : V.ownsRow b e size v n xs) (hb : Blk V g e' cs) (ht : e ≠ e') (o : Nat) (u : Value) : (V.setCell ⟨g, o, none⟩ u).ownsRow b e size v n xs := by
  refine own_set h (fun hv => ?_) o u
  rcases h.2 with ⟨h0, -⟩ | ⟨g', cap, cur, h1, -, hh, -⟩
  · rw [h0] at hv; cases hv
  · rw [h1] at hv
    have hgg : g' = g := Option.some.inj hv
    subst hgg
    have h2 : V.heap[g']? = some (.cells cs e' (0, 0)) := hb
    rw [hh] at h2
    injection h2 with h2
    injection h2 with _ h2 _
    exact ht h2
theorem CldsAt.set {V : World} {base g : Nat} {L : List Cld} {cs : Array Value} (h : CldsAt V base L) (hb : Blk V g 60 cs) (o : Nat) (u : Value) : CldsAt (V.setCell ⟨g, o, none⟩ u) base L := fun c hc => ⟨own_setT (h c hc).1 hb (by decide) o u, own_setT (h c hc).2 hb (by decide) o u⟩
/-- What is told of area i. -/
theorem area_call {V : World} {s : Spr} {base W H N : Nat} {may inn : Nat → Bool} (hs : SprAt V s base N) (ho : s.Ok W H may inn) (hW : 1 ≤ W) (hH : 1 ≤ H) (hW8 : W ≤ 8) (hH8 : H ≤ 8) (hN : W * H = N) (hlev : ∀ p, inn p = true → may p = true) {i : Nat} (hi : i < s.K) :
    ∃ (Ap Ak : Option Addr) (np cp nk ck : Nat) (x0 x1 y0 y1 s0 s1 : Int), s.h (i * 8) = .slice Ap np cp ∧ s.h (i * 8 + 1) = .slice Ak nk ck ∧ s.h (i * 8 + 2) = .int .i64 x0 ∧ s.h (i * 8 + 3) = .int .i64 x1 ∧ s.h (i * 8 + 4) = .int .i64 y0 ∧ s.h (i * 8 + 5) = .int .i64 y1 ∧ s.h (i * 8 + 6) = .int .i64 s0 ∧ s.h (i * 8 + 7) = .int .i64 s1 ∧
      (s.pix.getD i []).length = np ∧ 1 ≤ np ∧ np ≤ 64 ∧ (∀ p ∈ s.pix.getD i [], p < N) ∧ (s.pix.getD i []).Pairwise (· < ·) ∧ (∀ p ∈ (s.ki i).flatMap (·.2), p ∈ s.pix.getD i []) ∧
      ∀ V', Below V.heap.size V V' → ∀ xd xu yd yu : Int, insB xd xu (-100000) 100000 = true → insB yd yu (-100000) 100000 = true →
        Calls Try.prog 20 #[.agg #[.int .i64 0, .int .i64 0, .int .i64 1000, .int .i64 (W : Nat), .int .i64 (H : Nat)], .agg #[.slice Ap np cp, .slice Ak nk ck, .int .i64 x0, .int .i64 x1, .int .i64 y0, .int .i64 y1, .int .i64 s0, .int .i64 s1], .agg #[.int .i64 xd, .int .i64 xu, .int .i64 yd, .int .i64 yu], .int .i64 0] V' (COfPost (s.ki i) (s.pix.getD i []) xd xu yd yu V') := by
  have hN64 : N ≤ 64 := by rw [← hN]; exact Nat.mul_le_mul hW8 hH8
  obtain ⟨h0, h1, h2⟩ := ho.cells i hi
  obtain ⟨y, hyE, -, hpv, hpix⟩ := pvE_get (E := s.E) (i := i) (by rw [ho.len]; exact hi)
  have hpx : s.pix.getD i [] = y.2 := hpix
  have hrow := hs.ps hyE
  rw [hpv] at h0
  obtain ⟨Ap, cp, hAp⟩ := own_shape2 hrow
  have hkv := hs.kv hi
  obtain ⟨Ak, ck, hAk⟩ := own_shape2 hkv
  obtain ⟨x0, hx0⟩ := h2 2 (by omega) (by omega)
  obtain ⟨x1, hx1⟩ := h2 3 (by omega) (by omega)
  obtain ⟨y0, hy0⟩ := h2 4 (by omega) (by omega)
  obtain ⟨y1, hy1⟩ := h2 5 (by omega) (by omega)
  obtain ⟨s0, hs0⟩ := h2 6 (by omega) (by omega)
  obtain ⟨s1, hs1⟩ := h2 7 (by omega) (by omega)
  have hiP : i < s.pix.length := by
    have : s.pix.length = s.K := by unfold Spr.pix; rw [List.length_map, List.length_reverse]; exact ho.len
    omega
  have hpm := ho.areas.pixs i hiP
  have hps := ho.areas.sort i hiP
  have hpn := ho.areas.ne i hiP
  have hlt : ∀ p ∈ s.pix.getD i [], p < N := fun p hp => by rw [← hN]; exact ((hpm p).1 hp).1
  have hkm : ∀ p ∈ (s.ki i).flatMap (·.2), p ∈ s.pix.getD i [] := fun p hp => by
    obtain ⟨z, hz, hpz⟩ := List.mem_flatMap.1 hp
    have hk : s.kern.getD i [] = (s.ki i).map (·.2) := by
      unfold Spr.kern
      rw [List.getD_eq_getElem?_getD, List.getElem?_map, List.getElem?_range hi]
      rfl
    have h3 := ho.areas.kerns i hiP z.2 (by rw [hk]; exact List.mem_map_of_mem hz) p hpz
    exact (hpm p).2 ⟨h3.1, h3.2.2⟩
  have hlen := rise_le hps hlt
  rw [hpx] at hlen hlt hkm hps hpn ⊢
  have h1n : 1 ≤ y.2.length := List.length_pos_iff.2 hpn
  refine ⟨Ap, Ak, y.2.length, cp, (s.ki i).length, ck, x0, x1, y0, y1, s0, s1, h0.trans hAp, h1.trans hAk, hx0, hx1, hy0, hy1, hs0, hs1, rfl, h1n, by omega, hlt, hps, hkm, fun V' hB xd xu yd yu hfx hfy => ?_⟩
  have hkl := ho.kls i hi
  rw [hN] at hkl
  rw [hAp] at hrow
  rw [hAk] at hkv
  have hg : gridE 0 0 1000 W H = 0 := by
    unfold gridE winB
    rw [if_pos]
    simp
    omega
  exact COf_ok 0 0 1000 W H N base 0 (s.ki i).length ck y.2.length cp Ak Ap x0 x1 y0 y1 s0 s1 xd xu yd yu (s.ki i) y.2 V' hg hN.symm hN64 (by omega) (by omega) hfx hfy (own_belowT hkv hB) rfl (by omega) (fun z hz => own_belowT (hs.pk ho hi hz) hB) (fun z hz => by have := hkl.2 z hz; omega) (own_belowT hrow hB) rfl h1n (by omega) hlt hps hkm
end Go.Proofs.Ytidbjidcjmbnlaa
end
section
namespace Go.Proofs.Ytidbjidcjmbnlaa
open Go Go.RowKit
attribute [local go_sem] Oper.semAt_some

/-- So many clouds are made. -/
def ClS (N : Nat) (T mx my : Int) (s : Spr) (w0 : World) (v : Value) (k : Nat) (V : World) : Prop := ∃ L : List Cld, L.length = k ∧ ClsG N T mx my s L ∧ CldsAt V w0.heap.size L ∧ Mem w0 [.row w0.heap.size 76 7 v k (cldCells L)] V
set_option maxRecDepth 1000000 in
noncomputable def cl1C : Code := ((loopsOf ((Try.f5.body).getD .skip))[1]?).getD .skip
set_option maxHeartbeats 8000000 in
set_option maxRecDepth 1000000 in
theorem cl1 {kc0 ku2 ku3 kc6 kc7 kc8 kc9 ku16 ku17 ku18 ku19 ku20 ku21 ku22 ku23 ku24 ku25 kc26 kc27 kc28 kc29 kc30 kc31 kc32 kc33 kc34 kc35 kc36 kc37 kc38 kc39 kc40 kc41 kc42 kc43 kc44 kc45 kc46 kc47 kc48 kc49 kc50 kc51 kc52 kc53 kc54 kc55 kc56 kc57 kc58 kc59 kc60 kc61 kc62 kc63 kc64 kc65 kc66 kc67 kc68 kc69 kc70 kc71 kc72 kc73 kc74 kc75 kc76 kc77 ku78 ku79 ku80 ku81 ku82 ku83 ku84 ku85 ku86 ku87 ku88 ku89 ku90 ku91 ku92 ku93 ku94 ku95 ku96 ku97 ku98 ku99 ku100 ku101 ku102 ku103 ku104 ku105 ku106 ku107 ku108 ku109 ku110 ku111 ku112 ku113 ku114 ku115 ku116 ku117 ku118 ku119 ku120 ku121 ku122 ku123 ku124 ku125 ku126 ku127 ku128 ku129 ku130 ku131 ku132 ku133 ku134 ku135 ku136 ku137 ku138 ku139 ku140 ku141 ku142 ku143 ku144 ku145 ku146 ku147 ku148 ku149 ku150 ku151 ku152 ku153 ku154 ku155 ku156 ku157 ku158 ku159 ku160 ku161 ku162 ku163 ku164 ku165 ku166 ku167 ku168 ku169 ku170 ku171 ku172 ku173 ku174 ku175 ku176 ku177 ku178 ku179 ku180 ku181 kc182 : Value} (wd hg nA cA xb yb nD cD sec W H N pX pG pB base nt ct : Nat) (A D At : Option Addr) (mx my T : Int) (s : Spr) (may inn : Nat → Bool) (kk : Nat → Nat) (fr : Nat → Int) (ml : Nat → List (Int × Int)) (xs : List Value) (hsec : sec < 65536) (hT : ((100 + sec % 500 : Nat) : Int) = T) (hW : 1 ≤ W) (hH : 1 ≤ H) (hW8 : W ≤ 8) (hH8 : H ≤ 8) (hN : W * H = N) (hlev : ∀ p, inn p = true → may p = true) (ho : s.Ok W H may inn) (hmx : -2 ≤ mx ∧ mx ≤ 2) (hmy : -2 ≤ my ∧ my ≤ 2) (hfr : ∀ i, i < s.K → kk i < nt ∧ xs[kk i * 6 + 1]? = some (.int .i64 (fr i)) ∧ (fr i = 0 ∨ fr i = 1)) (hml : ∀ i, i < s.K → fr i = 0 → (mx, my) ∈ ml i ∧ (∀ m ∈ ml i, -2 ≤ m.1 ∧ m.1 ≤ 2 ∧ -2 ≤ m.2 ∧ m.2 ≤ 2) ∧ (ml i).length ≤ 25) {Q : Exit → Act → World → Prop} {wr : World} (hX : Blk wr pX 26 (movedC wd hg A nA cA xb yb D nD cD sec)) (hG : Blk wr pG 28 #[.int .i64 0, .int .i64 0, .int .i64 1000, .int .i64 (W : Nat), .int .i64 (H : Nat)]) (hsp : SprAt wr s base N) (htr : wr.ownsRow base 62 6 (.slice At nt ct) nt xs) (hof : ∀ V, Below wr.heap.size wr V → ∀ i, i < s.K → Calls Try.prog 16 #[.pointer (some ⟨pB, 0, none⟩), .int .i64 1, .int .i64 (i : Nat)] V fun e w' => e = .returned (.tuple #[.int .i64 (kk i : Nat), .int .i64 0]) ∧ Below V.heap.size V w') (hst : ∀ V, Below wr.heap.size wr V → ∀ i, i < s.K → fr i = 0 → Calls Try.prog 17 #[.pointer (some ⟨pB, 0, none⟩), .int .i64 (kk i : Nat)] V (StepsPost (ml i) V))
    (hexit : ∀ ⦃kv2 kv3 kv16 kv17 kv18 kv19 kv20 kv21 kv22 kv23 kv24 kv25 kv78 kv79 kv80 kv81 kv82 kv83 kv84 kv85 kv86 kv87 kv88 kv89 kv90 kv91 kv92 kv93 kv94 kv95 kv96 kv97 kv98 kv99 kv100 kv101 kv102 kv103 kv104 kv105 kv106 kv107 kv108 kv109 kv110 kv111 kv112 kv113 kv114 kv115 kv116 kv117 kv118 kv119 kv120 kv121 kv122 kv123 kv124 kv125 kv126 kv127 kv128 kv129 kv130 kv131 kv132 kv133 kv134 kv135 kv136 kv137 kv138 kv139 kv140 kv141 kv142 kv143 kv144 kv145 kv146 kv147 kv148 kv149 kv150 kv151 kv152 kv153 kv154 kv155 kv156 kv157 kv158 kv159 kv160 kv161 kv162 kv163 kv164 kv165 kv166 kv167 kv168 kv169 kv170 kv171 kv172 kv173 kv174 kv175 kv176 kv177 kv178 kv179 kv180 kv181 : Value⦄ ⦃rv : Value⦄ ⦃w2 : World⦄, ClS N T mx my s wr rv s.K w2 → Q (.exit 2) ⟨List.toArray (kc0 :: .pointer (some ⟨pX, 0, none⟩) :: kv2 :: kv3 :: .pointer (some ⟨pG, 0, none⟩) :: .pointer (some ⟨pB, 0, none⟩) :: kc6 :: kc7 :: kc8 :: kc9 :: .slice (some ⟨s.bo, 0, none⟩) s.K s.K :: .slice At nt ct :: .int .i64 mx :: .int .i64 my :: rv :: .int .i64 (s.K : Int) :: kv16 :: kv17 :: kv18 :: kv19 :: kv20 :: kv21 :: kv22 :: kv23 :: kv24 :: kv25 :: kc26 :: kc27 :: kc28 :: kc29 :: kc30 :: kc31 :: kc32 :: kc33 :: kc34 :: kc35 :: kc36 :: kc37 :: kc38 :: kc39 :: kc40 :: kc41 :: kc42 :: kc43 :: kc44 :: kc45 :: kc46 :: kc47 :: kc48 :: kc49 :: kc50 :: kc51 :: kc52 :: kc53 :: kc54 :: kc55 :: kc56 :: kc57 :: kc58 :: kc59 :: kc60 :: kc61 :: kc62 :: kc63 :: kc64 :: kc65 :: kc66 :: kc67 :: kc68 :: kc69 :: kc70 :: kc71 :: kc72 :: kc73 :: kc74 :: kc75 :: kc76 :: kc77 :: kv78 :: kv79 :: kv80 :: kv81 :: kv82 :: kv83 :: kv84 :: kv85 :: kv86 :: kv87 :: kv88 :: kv89 :: kv90 :: kv91 :: kv92 :: kv93 :: kv94 :: kv95 :: kv96 :: kv97 :: kv98 :: kv99 :: kv100 :: kv101 :: kv102 :: kv103 :: kv104 :: kv105 :: kv106 :: kv107 :: kv108 :: kv109 :: kv110 :: kv111 :: kv112 :: kv113 :: kv114 :: kv115 :: kv116 :: kv117 :: kv118 :: kv119 :: kv120 :: kv121 :: kv122 :: kv123 :: kv124 :: kv125 :: kv126 :: kv127 :: kv128 :: kv129 :: kv130 :: kv131 :: kv132 :: kv133 :: kv134 :: kv135 :: kv136 :: kv137 :: kv138 :: kv139 :: kv140 :: kv141 :: kv142 :: kv143 :: kv144 :: kv145 :: kv146 :: kv147 :: kv148 :: kv149 :: kv150 :: kv151 :: kv152 :: kv153 :: kv154 :: kv155 :: kv156 :: kv157 :: kv158 :: kv159 :: kv160 :: kv161 :: kv162 :: kv163 :: kv164 :: kv165 :: kv166 :: kv167 :: kv168 :: kv169 :: kv170 :: kv171 :: kv172 :: kv173 :: kv174 :: kv175 :: kv176 :: kv177 :: kv178 :: kv179 :: kv180 :: kv181 :: kc182 :: []), []⟩ w2) :
    Code.wp Try.prog cl1C Q ⟨List.toArray (kc0 :: .pointer (some ⟨pX, 0, none⟩) :: ku2 :: ku3 :: .pointer (some ⟨pG, 0, none⟩) :: .pointer (some ⟨pB, 0, none⟩) :: kc6 :: kc7 :: kc8 :: kc9 :: .slice (some ⟨s.bo, 0, none⟩) s.K s.K :: .slice At nt ct :: .int .i64 mx :: .int .i64 my :: .slice none 0 0 :: .int .i64 0 :: ku16 :: ku17 :: ku18 :: ku19 :: ku20 :: ku21 :: ku22 :: ku23 :: ku24 :: ku25 :: kc26 :: kc27 :: kc28 :: kc29 :: kc30 :: kc31 :: kc32 :: kc33 :: kc34 :: kc35 :: kc36 :: kc37 :: kc38 :: kc39 :: kc40 :: kc41 :: kc42 :: kc43 :: kc44 :: kc45 :: kc46 :: kc47 :: kc48 :: kc49 :: kc50 :: kc51 :: kc52 :: kc53 :: kc54 :: kc55 :: kc56 :: kc57 :: kc58 :: kc59 :: kc60 :: kc61 :: kc62 :: kc63 :: kc64 :: kc65 :: kc66 :: kc67 :: kc68 :: kc69 :: kc70 :: kc71 :: kc72 :: kc73 :: kc74 :: kc75 :: kc76 :: kc77 :: ku78 :: ku79 :: ku80 :: ku81 :: ku82 :: ku83 :: ku84 :: ku85 :: ku86 :: ku87 :: ku88 :: ku89 :: ku90 :: ku91 :: ku92 :: ku93 :: ku94 :: ku95 :: ku96 :: ku97 :: ku98 :: ku99 :: ku100 :: ku101 :: ku102 :: ku103 :: ku104 :: ku105 :: ku106 :: ku107 :: ku108 :: ku109 :: ku110 :: ku111 :: ku112 :: ku113 :: ku114 :: ku115 :: ku116 :: ku117 :: ku118 :: ku119 :: ku120 :: ku121 :: ku122 :: ku123 :: ku124 :: ku125 :: ku126 :: ku127 :: ku128 :: ku129 :: ku130 :: ku131 :: ku132 :: ku133 :: ku134 :: ku135 :: ku136 :: ku137 :: ku138 :: ku139 :: ku140 :: ku141 :: ku142 :: ku143 :: ku144 :: ku145 :: ku146 :: ku147 :: ku148 :: ku149 :: ku150 :: ku151 :: ku152 :: ku153 :: ku154 :: ku155 :: ku156 :: ku157 :: ku158 :: ku159 :: ku160 :: ku161 :: ku162 :: ku163 :: ku164 :: ku165 :: ku166 :: ku167 :: ku168 :: ku169 :: ku170 :: ku171 :: ku172 :: ku173 :: ku174 :: ku175 :: ku176 :: ku177 :: ku178 :: ku179 :: ku180 :: ku181 :: kc182 :: []), []⟩ wr := by
  have HX := hide hexit
  clear hexit
  unfold cl1C
  conv => arg 2; whnf
  obtain ⟨w0, rfl⟩ : ∃ w0, w0 = wr := ⟨wr, rfl⟩
  have hN64 : N ≤ 64 := by rw [← hN]; exact Nat.mul_le_mul hW8 hH8
  have hK64 : s.K ≤ 64 := by have := ho.le; rw [hN] at this; omega
  have hT1 : 100 ≤ T ∧ T ≤ 599 := by omega
  have hsc := fun V => movedSeconds_any wd hg nA cA xb yb nD cD sec A D V hsec
  rw [hT] at hsc
  have har := fun i (hi : i < s.K) => area_call hsp ho hW hH hW8 hH8 hN hlev hi
  unfold movedC at hX hsc
  obtain ⟨K, hK⟩ : ∃ K, s.K = K := ⟨_, rfl⟩
  have hbo := hsp.bo
  have HS := hide (show ClS N T mx my s w0 (.slice none 0 0) 0 w0 from ⟨[], rfl, ClsG.nil, fun c hc => absurd hc List.not_mem_nil, (Mem.start w0).nilRow w0.heap.size 76 7⟩)
  have htr2 := fun V (hB : Below w0.heap.size w0 V) => own_belowT htr hB
  have hX2 := fun V (hB : Below w0.heap.size w0 V) => blk_belowN hX hB hX.lt
  have hG2 := fun V (hB : Below w0.heap.size w0 V) => blk_belowN hG hB hG.lt
  have hbo2 := fun V (hB : Below w0.heap.size w0 V) => blk_belowN hbo hB hbo.lt
  simp only [hK] at *
  have HSC := hide hsc
  have HAR := hide har
  have HFR := hide hfr
  have HML := hide hml
  have HOF := hide hof
  have HST := hide hst
  have HTR := hide htr2
  have HX2 := hide hX2
  have HG2 := hide hG2
  have HBO := hide hbo2
  have HLEV := hide hlev
  have HO := hide ho
  have HTT := hide hT
  clear hsc har hfr hml hof hst htr2 hX2 hG2 hbo2 hlev ho hT
  clear hX hG htr hsp hbo hsec hN
  go_loopw [14, 15] (fun v u wr => ∃ k : Nat, k ≤ K ∧ u = .int .i64 (k : Nat) ∧ Hid (ClS N T mx my s w0 v k wr)) (fun _ u _ => K - (intOf u).toNat)
  case atStart => exact ⟨0, Nat.zero_le _, rfl, HS⟩
  case round =>
    clear HS
    obtain ⟨k, hkK, rfl, HS⟩ := hrel
    obtain ⟨L, hL, hLg, hLa, hM⟩ := HS.out
    obtain ⟨Av, cv, rfl⟩ := own_shape2 (hM.row_ 0 rfl)
    have HLn := hide hL
    have HLG := hide hLg
    have HM := hide hM
    have HLA := hide hLa
    clear hL hLg hM hLa
    clear HS
    by_cases hlt : k < K
    · have hlt2 : (k : Int) < K := by omega
      obtain ⟨Ap, Ak, np, cp, nk, ck, x0, x1, y0, y1, s0, s1, hh0, hh1, hh2, hh3, hh4, hh5, hh6, hh7, hnp, hnp1, hnp64, hmN, hmr, hkm, hco⟩ := HAR.out k hlt
      have HH0 := hide hh0
      have HH1 := hide hh1
      have HH2 := hide hh2
      have HH3 := hide hh3
      have HH4 := hide hh4
      have HH5 := hide hh5
      have HH6 := hide hh6
      have HH7 := hide hh7
      have HNP := hide hnp
      have HMN := hide hmN
      have HMR := hide hmr
      have HKM := hide hkm
      have HCO := hide hco
      clear hh0 hh1 hh2 hh3 hh4 hh5 hh6 hh7 hnp hmN hmr hkm hco
      obtain ⟨hqn, hxq, hfr2⟩ := HFR.out k hlt
      have hofk := fun V hB => HOF.out V hB k hlt
      have hstk := fun V hB => HST.out V hB k hlt
      have hmlk := HML.out k hlt
      obtain ⟨q, hq⟩ : ∃ q, kk k = q := ⟨_, rfl⟩
      obtain ⟨f, hf⟩ : ∃ q, fr k = q := ⟨_, rfl⟩
      obtain ⟨l, hl⟩ : ∃ q, ml k = q := ⟨_, rfl⟩
      rw [hq] at hqn hxq
      rw [hf] at hxq hfr2
      simp only [hq, hf, hl] at hofk hstk hmlk
      have hqI : (q : Int) < nt := by omega
      have hd1 : decide ((q : Int) < 0) = false := decide_eq_false (by omega)
      have hd2 : decide ((nt : Int) ≤ q) = false := decide_eq_false (by omega)
      obtain ⟨bt, curt, hAt, -, hbt, -, -, hct⟩ := row_blk (HTR.out wr HM.out.below) (by omega)
      subst hAt
      have hq6 := hct _ _ hxq
      have hcf := fun V (hB : Below wr.heap.size wr V) => show V.cell? ⟨bt, q * 6 + 1, none⟩ = some (.int .i64 f) from (blk_belowN hbt hB hbt.lt).c (q * 6 + 1) hq6
      have hlf := fun V (hB : Below wr.heap.size wr V) => (blk_belowN hbt hB hbt.lt).lt
      have HBW := hide (Below.refl wr.heap.size wr)
      have HOFK := hide hofk
      have HSTK := hide hstk
      have HMLK := hide hmlk
      have HCF := hide hcf
      have HLF := hide hlf
      have HFR2 := hide hfr2
      clear hofk hstk hmlk hcf hlf hfr2
      clear hbt hct hq6 hxq hq hf hl HOF HST HML HFR
      go_wp2_with fail
      refine (HOFK.out wr HM.out.below).mono ?_
      rintro e w2 ⟨rfl, hb⟩
      replace HM := hide (HM.out.later hb)
      replace HLA := hide (HLA.out.later hb)
      replace HBW := hide (onward HBW.out hb)
      clear hb
      go_upto_region 24 with fail
      refine code_world fun W3 hW => ?_
      have HMn := Mem.to (Mem.allocAt (Mem.allocAt HM.out w2.heap.size rfl #[.int .i64 (-2), .int .i64 2] 60) (w2.heap.size + 1) (by simp) #[.int .i64 (-2), .int .i64 2] 60) hW
      have LW : Later w2 W3 := by rw [hW]; exact (((Below.refl _ _).alloc (Nat.le_refl _) _).alloc (by simp; try omega) _)
      have szW : W3.heap.size = w2.heap.size + 2 := by rw [hW]; simp
      clear hW
      replace HLA := hide (HLA.out.later LW)
      replace HBW := hide (onward HBW.out LW)
      replace HM := hide HMn
      clear HMn LW
      clear szW
      obtain ⟨pu, hpu⟩ : ∃ q, w2.heap.size = q := ⟨_, rfl⟩
      obtain ⟨pv, hpv⟩ : ∃ q, pu + 1 = q := ⟨_, rfl⟩
      rw [show w2.heap.size + 1 = pv by omega, hpu] at HM
      simp only [hpu, hpv]
      clear hpu hpv
      have t1 := HCF.out W3 HBW.out
      have ltt := HLF.out W3 HBW.out
      rcases HFR2.out with hf0 | hf1
      · subst hf0
        obtain ⟨hmem, hmb, hm25⟩ := HMLK.out rfl
        go_wp2_with fail
        refine (HSTK.out W3 HM.out.below (by first | trivial | rfl)).mono ?_
        rintro e w4 ⟨v, v1, rfl, hb4, hrow, hmv⟩
        replace HM := hide (HM.out.later hb4)
        replace HLA := hide (HLA.out.later hb4)
        clear hb4 t1 ltt HBW
        obtain ⟨A4, c4, rfl⟩ := own_shape2 hrow
        obtain ⟨b4, cur4, rfl, -, hb4, -, -, hc4⟩ := row_blk hrow (by omega)
        have z0 := hc4 0 v1 rfl
        obtain ⟨A5, c5, rfl⟩ := own_shape2 hmv
        have hml0 : 0 < l.length := List.length_pos_of_mem hmem
        obtain ⟨b5, cur5, rfl, -, hb5, -, -, hc5⟩ := row_blk hmv hml0
        have hmr5 := MvRow.of hmv hml0
        obtain ⟨m, hm⟩ : ∃ m, l.length = m := ⟨_, rfl⟩
        rw [hm] at z0 hml0 hm25
        simp only [hm]
        have hst4 := fun V (hB : Below w4.heap.size w4 V) => show V.cell? ⟨b4, 0, none⟩ = some (.slice (some ⟨b5, 0, none⟩) m c5) ∧ b4 < V.heap.size from ⟨(blk_belowN hb4 hB hb4.lt).c 0 z0, (blk_belowN hb4 hB hb4.lt).lt⟩
        have HMEM := hide hmem
        have HMB := hide hmb
        have HST4 := hide hst4
        have HMR5 := hide hmr5
        have HMM := hide hm
        clear hmem hmb hst4 hmr5 hm
        clear hb4 hc4 z0 hb5 hc5 hrow hmv
        go_wp2_with fail
        go_loopw [22, 23] (fun a u wr => ∃ j : Nat, j ≤ m ∧ a = .bool (decide ((mx, my) ∈ l.take j)) ∧ u = .int .i64 (j : Nat) ∧ Hid (Below w4.heap.size w4 wr)) (fun _ u _ => m - (intOf u).toNat)
        case atStart => exact ⟨0, Nat.zero_le _, by simp, rfl, hide (Below.refl _ _)⟩
        case round =>
          obtain ⟨j, hjm, rfl, rfl, HB4⟩ := hrel
          obtain ⟨z0, ltz⟩ := HST4.out wr HB4.out
          by_cases hlj : j < m
          · have hlj2 : (j : Int) < m := by omega
            obtain ⟨y, hy⟩ : ∃ x, l[j]? = some x := ⟨_, List.getElem?_eq_getElem (by rw [HMM.out]; exact hlj)⟩
            obtain ⟨cur, hbm, hcm⟩ := HMR5.out.later HB4.out
            obtain ⟨hm0, hm1⟩ := hcm j y hy
            have m0 := hbm.c (j * 2) hm0
            have m1 := hbm.c (j * 2 + 1) hm1
            have ltm := hbm.lt
            have hnx := take_mem (x := (mx, my)) hy
            obtain ⟨wb, hwb⟩ : ∃ b, decide ((mx, my) ∈ l.take j) = b := ⟨_, rfl⟩
            rw [hwb] at hnx
            rw [hwb]
            obtain ⟨yx, yy⟩ := y
            dsimp only at m0 m1
            have HNX := hide hnx
            clear hnx
            clear hcm hm0 hm1 hbm hy hwb
            cases wb with
            | true =>
              go_wp2_with fail
              go_roundw
              case rel => exact ⟨j + 1, hlj, by rw [HNX.out]; rfl, by go_num, HB4⟩
              case measure => simp [intOf] <;> omega
            | false =>
              by_cases hyx : yx = mx
              · by_cases hyy : yy = my
                · rw [hyx] at m0
                  rw [hyy] at m1
                  have hcons := HNX.out
                  rw [hyx, hyy] at hcons
                  have HNX2 := hide hcons
                  clear hcons HNX hyx hyy
                  go_wp2_with fail
                  go_roundw
                  case rel => exact ⟨j + 1, hlj, by rw [HNX2.out]; simp, by go_num, HB4⟩
                  case measure => simp [intOf] <;> omega
                · go_wp2_with fail
                  go_roundw
                  case rel => exact ⟨j + 1, hlj, by rw [HNX.out]; simp [hyy], by go_num, HB4⟩
                  case measure => simp [intOf] <;> omega
              · go_wp2_with fail
                go_roundw
                case rel => exact ⟨j + 1, hlj, by rw [HNX.out]; simp [hyx], by go_num, HB4⟩
                case measure => simp [intOf] <;> omega
          · obtain rfl : m = j := by omega
            have hkk : ¬ ((m : Int) < m) := by omega
            have hwas : decide ((mx, my) ∈ l.take m) = true := by
              rw [List.take_of_length_le (by rw [HMM.out]; exact Nat.le_refl _)]
              exact decide_eq_true HMEM.out
            rw [hwas]
            clear hwas
            replace HM := hide (HM.out.later HB4.out)
            replace HLA := hide (HLA.out.later HB4.out)
            go_wp2_with fail
            refine (Hull_any b5 m c5 l wr HMM.out (by omega) (by omega) (HMR5.out.later HB4.out)).mono ?_
            rintro e w6 ⟨ul, uh, vl, vh, hall, ⟨a1, ha1, e1⟩, ⟨a2, ha2, e2⟩, ⟨a3, ha3, e3⟩, ⟨a4, ha4, e4⟩, rfl, hb6⟩
            replace HM := hide (HM.out.later hb6)
            replace HLA := hide (HLA.out.later hb6)
            have hmm0 := hall _ HMEM.out
            have hmb := HMB.out
            have hul : -2 ≤ ul ∧ ul ≤ mx ∧ mx ≤ uh ∧ uh ≤ 2 := by
              have := hmb a1 ha1
              have := hmb a2 ha2
              dsimp only at hmm0
              omega
            have hvl : -2 ≤ vl ∧ vl ≤ my ∧ my ≤ vh ∧ vh ≤ 2 := by
              have := hmb a3 ha3
              have := hmb a4 ha4
              dsimp only at hmm0
              omega
            clear hall ha1 e1 ha2 e2 ha3 e3 ha4 e4 hb6 hmm0 hmb z0 ltz HMEM HMB
            have bc : Blk w6 pu 60 #[.int .i64 (-2), .int .i64 2] := HM.out.get 1 rfl
            have ltc := bc.lt
            have c0 := bc.c 0 rfl
            have fc0 := bc.frozen 0
            have c1 := bc.c 1 rfl
            have fc1 := bc.frozen 1
            have bd : Blk w6 pv 60 #[.int .i64 (-2), .int .i64 2] := HM.out.get 0 rfl
            have ltd := bd.lt
            have d0 := bd.c 0 rfl
            have fd0 := bd.frozen 0
            have d1 := bd.c 1 rfl
            have fd1 := bd.frozen 1
            have hpn := HM.out.ne 0 1 rfl rfl (by decide)
            go_upto_region 36 with fail
            refine code_world fun w7 hw7 => ?_
            have h71 := HM.out.set_ 1 rfl 0 (.int .i64 ul) (cs' := #[.int .i64 ul, .int .i64 2]) rfl
            have h72 := h71.set_ 1 rfl 1 (.int .i64 uh) (cs' := #[.int .i64 ul, .int .i64 uh]) rfl
            have h73 := h72.set_ 0 rfl 0 (.int .i64 vl) (cs' := #[.int .i64 vl, .int .i64 2]) rfl
            have h74 := h73.set_ 0 rfl 1 (.int .i64 vh) (cs' := #[.int .i64 vl, .int .i64 vh]) rfl
            have l71 := HLA.out.set (HM.out.blk_ 1 rfl) 0 (.int .i64 ul)
            have l72 := l71.set (h71.blk_ 1 rfl) 1 (.int .i64 uh)
            have l73 := l72.set (h72.blk_ 0 rfl) 0 (.int .i64 vl)
            have l74 := l73.set (h73.blk_ 0 rfl) 1 (.int .i64 vh)
            rw [← hw7] at h74 l74
            simp only [List.set_cons_zero, List.set_cons_succ] at h74
            clear HM HLA hw7 h71 h72 h73 l71 l72 l73 hpn c0 c1 fc0 fc1 ltc bc d0 d1 fd0 fd1 ltd bd
            have HM := hide h74
            have HLA := hide l74
            clear h74 l74 HMR5 HST4 HB4
            go_upto_region 38 with fail
            obtain ⟨xd, hxd⟩ : ∃ q, flLo ul T = q := ⟨_, rfl⟩
            obtain ⟨xu, hxu⟩ : ∃ q, flHi uh T = q := ⟨_, rfl⟩
            obtain ⟨yd, hyd⟩ : ∃ q, flLo vl T = q := ⟨_, rfl⟩
            obtain ⟨yu, hyu⟩ : ∃ q, flHi vh T = q := ⟨_, rfl⟩
            have hfx : insB xd xu (-100000) 100000 = true := by rw [← hxd, ← hxu]; exact fl_ins (by omega) (by omega) (by omega) (by omega)
            have hfy : insB yd yu (-100000) 100000 = true := by rw [← hyd, ← hyu]; exact fl_ins (by omega) (by omega) (by omega) (by omega)
            have hft := fun V => Fit_ok ul uh vl vh T xd xu yd yu V (by omega) (by omega) (by omega) (by omega) (by omega) (by omega) (by omega) hxd hxu hyd hyu hfx hfy
            have hcof := fun V (hB : Below w0.heap.size w0 V) => HCO.out V hB xd xu yd yu hfx hfy
            have hcld : ∃ ul uh vl vh : Int, (-2 ≤ ul ∧ ul ≤ mx ∧ mx ≤ uh ∧ uh ≤ 2) ∧ (-2 ≤ vl ∧ vl ≤ my ∧ my ≤ vh ∧ vh ≤ 2) ∧ xd = flLo ul T ∧ xu = flHi uh T ∧ yd = flLo vl T ∧ yu = flHi vh T := ⟨ul, uh, vl, vh, hul, hvl, hxd.symm, hxu.symm, hyd.symm, hyu.symm⟩
            have HFT := hide hft
            have HCOF := hide hcof
            have HCLD := hide hcld
            have HFX := hide hfx
            have HFY := hide hfy
            clear hft hcof hcld hfx hfy
            clear hxd hxu hyd hyu hul hvl HCO
            have bc : Blk w7 pu 60 #[.int .i64 ul, .int .i64 uh] := HM.out.get 1 rfl
            have ltc := bc.lt
            have c0 := bc.c 0 rfl
            have c1 := bc.c 1 rfl
            have bd : Blk w7 pv 60 #[.int .i64 vl, .int .i64 vh] := HM.out.get 0 rfl
            have ltd := bd.lt
            have d0 := bd.c 0 rfl
            have d1 := bd.c 1 rfl
            have bX := HX2.out w7 HM.out.below
            have a0 := bX.c 0 rfl
            have a1 := bX.c 1 rfl
            have a2 := bX.c 2 rfl
            have a3 := bX.c 3 rfl
            have a4 := bX.c 4 rfl
            have a5 := bX.c 5 rfl
            have a6 := bX.c 6 rfl
            have lta := bX.lt
            go_wp2_with fail
            apply wp_region_L (w0 := w7) [[], [], [], [], [], [], [], [], [], [8], [8, 9]] [true, true, true, true, true, true, true, true, false, false, true] [⟨8, none, [], []⟩, ⟨9, some 8, [8], [8]⟩] (fun ixq y => match ixq with | 8 => .pointer (y 0).1 | 9 => undef | _ => undef) (fun ixq x F wq => match ixq with | 8 => PtrF wq F w7.heap.size (x 8 0).1 72 #[.int .i64 0, .int .i64 0, .int .i64 0, .int .i64 0] | 9 => PtrF wq F w7.heap.size (x 8 0).1 72 #[.int .i64 xd, .int .i64 xu, .int .i64 yd, .int .i64 yu] | _ => True) (fun a x => ((a).put (some 24) (.pointer ((x 8) 0).1)).put (none) (undef)) (by kernel_rfl) (by kernel_rfl) (fun x => putH_step (some 24) (.pointer ((x 8) 0).1) rfl rfl <| putH_step (none) (undef) rfl rfl <| putH_end) [160, 161] (by kernel_rfl)
            · intro x D hD
              have hne := hD.some
              have k0 := liftB hD c0 (by first | assumption | omega)
              have k1 := liftB hD c1 (by first | assumption | omega)
              have k2 := liftB hD d0 (by first | assumption | omega)
              have k3 := liftB hD d1 (by first | assumption | omega)
              have k4 := liftB hD a0 (by first | assumption | omega)
              have k5 := liftB hD a1 (by first | assumption | omega)
              have k6 := liftB hD a2 (by first | assumption | omega)
              have k7 := liftB hD a3 (by first | assumption | omega)
              have k8 := liftB hD a4 (by first | assumption | omega)
              have k9 := liftB hD a5 (by first | assumption | omega)
              have k10 := liftB hD a6 (by first | assumption | omega)
              simp only [takeOps, Act.put, List.setIfInBounds_toArray, List.set_cons_succ, List.set_cons_zero]
              repeat (go_big_quiet_step ((first | (go_at_call 7; with_reducible exact calls_later hD _ (HSC.out _)) | (go_at_call 19; with_reducible exact calls_later hD _ (HFT.out _)))))
              exact wpQuiet_nil rfl
            · intro d hd x x'
              simp only [List.mem_cons, List.not_mem_nil, or_false] at hd
              rcases hd with rfl | rfl
              all_goals rfl
            · refine ⟨?_, ?_, trivial⟩
              · exact obl_alloc 72 24 (.agg #[.int .i64 0, .int .i64 0, .int .i64 0, .int .i64 0]) (by kernel_rfl) (by kernel_rfl) (fun _ => rfl) (fun _ _ _ h => h)
              · refine obl_store 72 24 162 8 #[.int .i64 0, .int .i64 0, .int .i64 0, .int .i64 0] (fun x => #[.int .i64 xd, .int .i64 xu, .int .i64 yd, .int .i64 yu]) (by kernel_rfl) rfl (by simp) (fun _ _ _ h => h) (fun _ => rfl) (fun _ => rfl) (fun _ => by kernel_rfl) (fun _ => rfl) (fun _ => by simp [Value.oneCell']) (fun _ => rfl) (by decide) (fun _ _ _ _ h => h)
            · refine ⟨?_, ?_, trivial⟩
              · exact owe_ptr 8 _ _ (fun x => #[.int .i64 0, .int .i64 0, .int .i64 0, .int .i64 0]) (fun _ _ _ => rfl) (by simp) (fun _ _ _ => rfl)
              · exact owe_ptr 8 _ _ (fun x => #[.int .i64 xd, .int .i64 xu, .int .i64 yd, .int .i64 yu]) (fun _ _ _ => rfl) (by simp) (fun _ _ _ => rfl)
            intro xx w5 F hL hlv1
            obtain ⟨-, fct9, -⟩ := hlv1
            replace fct9 : PtrF w5 (F 9) w7.heap.size (xx 8 0).1 72 #[.int .i64 xd, .int .i64 xu, .int .i64 yd, .int .i64 yu] := fct9 rfl
            obtain ⟨pF, hgs, hge, -, hbg⟩ := fct9
            rw [hgs]
            generalize (xx 9 0).1 = x9 at *
            have HM1 := hide (HM.out.add (t := .blk pF 72 _) hL (show Blk _ _ _ _ from hbg) (fun k hk => by rw [List.mem_singleton.1 hk]; exact hge))
            replace HLA := hide (HLA.out.later hL)
            clear HM hL hbg hge hgs c0 c1 ltc bc d0 d1 ltd bd a0 a1 a2 a3 a4 a5 a6 lta bX HFT
            have HM := HM1
            clear HM1
            have bf : Blk w5 pF 72 #[.int .i64 xd, .int .i64 xu, .int .i64 yd, .int .i64 yu] := HM.out.get 0 rfl
            have ltf := bf.lt
            have f0 := bf.c 0 rfl
            have f1 := bf.c 1 rfl
            have f2 := bf.c 2 rfl
            have f3 := bf.c 3 rfl
            have bG := HG2.out w5 HM.out.below
            have g0 := bG.c 0 rfl
            have g1 := bG.c 1 rfl
            have g2 := bG.c 2 rfl
            have g3 := bG.c 3 rfl
            have g4 := bG.c 4 rfl
            have ltg := bG.lt
            have bA := HBO.out w5 HM.out.below
            have a0 := bA.c (k * 8) ((cellsV_at (by omega)).trans (congrArg some HH0.out))
            have a1 := bA.c (k * 8 + 1) ((cellsV_at (by omega)).trans (congrArg some HH1.out))
            have a2 := bA.c (k * 8 + 2) ((cellsV_at (by omega)).trans (congrArg some HH2.out))
            have a3 := bA.c (k * 8 + 3) ((cellsV_at (by omega)).trans (congrArg some HH3.out))
            have a4 := bA.c (k * 8 + 4) ((cellsV_at (by omega)).trans (congrArg some HH4.out))
            have a5 := bA.c (k * 8 + 5) ((cellsV_at (by omega)).trans (congrArg some HH5.out))
            have a6 := bA.c (k * 8 + 6) ((cellsV_at (by omega)).trans (congrArg some HH6.out))
            have a7 := bA.c (k * 8 + 7) ((cellsV_at (by omega)).trans (congrArg some HH7.out))
            have lta := bA.lt
            go_wp2_with fail
            apply wp_region_L (w0 := w5) [[], [], [], [], [], [], [], [6], [6], [6], [], [6, 10], [6, 10, 11]] [true, true, true, true, true, true, false, true, true, true, false, false, true] [⟨6, none, [], []⟩, ⟨10, none, [], []⟩, ⟨11, some 10, [10], [6, 10]⟩] (fun ixq y => match ixq with | 6 => .tuple #[.agg #[.slice (y 0).1 (y 1).2 (y 0).2, .slice (y 2).1 np (y 2).2, .int .i64 xd, .int .i64 xu, .int .i64 yd, .int .i64 yu, .int .i64 0], .int .i64 0] | 10 => .pointer (y 0).1 | 11 => undef | _ => undef) (fun ixq x F wq => match ixq with | 6 => CofRg 6 w5.heap.size (s.ki k) (s.pix.getD k []) np x F wq | 10 => PtrF wq F w5.heap.size (x 10 0).1 76 #[.slice none 0 0, .slice none 0 0, .int .i64 0, .int .i64 0, .int .i64 0, .int .i64 0, .int .i64 0] | 11 => PtrF wq F w5.heap.size (x 10 0).1 76 #[.slice (x 6 0).1 (x 6 1).2 (x 6 0).2, .slice (x 6 2).1 np (x 6 2).2, .int .i64 xd, .int .i64 xu, .int .i64 yd, .int .i64 yu, .int .i64 0] | _ => True) (fun a x => (((a).put (some 173) (.tuple #[.agg #[.slice ((x 6) 0).1 ((x 6) 1).2 ((x 6) 0).2, .slice ((x 6) 2).1 np ((x 6) 2).2, .int .i64 xd, .int .i64 xu, .int .i64 yd, .int .i64 yu, .int .i64 0], .int .i64 0])).put (some 25) (.pointer ((x 10) 0).1)).put (none) (undef)) (by kernel_rfl) (by kernel_rfl) (fun x => putH_step (some 173) (.tuple #[.agg #[.slice ((x 6) 0).1 ((x 6) 1).2 ((x 6) 0).2, .slice ((x 6) 2).1 np ((x 6) 2).2, .int .i64 xd, .int .i64 xu, .int .i64 yd, .int .i64 yu, .int .i64 0], .int .i64 0]) rfl rfl <| putH_step (some 25) (.pointer ((x 10) 0).1) rfl rfl <| putH_step (none) (undef) rfl rfl <| putH_end) [] (by kernel_rfl)
            · intro x D hD
              have hne := hD.some
              have k0 := liftB hD g0 (by first | assumption | omega)
              have k1 := liftB hD g1 (by first | assumption | omega)
              have k2 := liftB hD g2 (by first | assumption | omega)
              have k3 := liftB hD g3 (by first | assumption | omega)
              have k4 := liftB hD g4 (by first | assumption | omega)
              have k5 := liftB hD a0 (by first | assumption | omega)
              have k6 := liftB hD a1 (by first | assumption | omega)
              have k7 := liftB hD a2 (by first | assumption | omega)
              have k8 := liftB hD a3 (by first | assumption | omega)
              have k9 := liftB hD a4 (by first | assumption | omega)
              have k10 := liftB hD a5 (by first | assumption | omega)
              have k11 := liftB hD a6 (by first | assumption | omega)
              have k12 := liftB hD a7 (by first | assumption | omega)
              have k13 := liftB hD f0 (by first | assumption | omega)
              have k14 := liftB hD f1 (by first | assumption | omega)
              have k15 := liftB hD f2 (by first | assumption | omega)
              have k16 := liftB hD f3 (by first | assumption | omega)
              simp only [takeOps, Act.put, List.setIfInBounds_toArray, List.set_cons_succ, List.set_cons_zero]
              repeat (go_big_quiet_step (fail))
              exact wpQuiet_nil rfl
            · exact fun _ h => absurd h (by simp)
            · refine ⟨?_, ?_, ?_, trivial⟩
              · refine obl_callL rfl (fun _ => by kernel_rfl) 20 (fun x => #[.agg #[.int .i64 0, .int .i64 0, .int .i64 1000, .int .i64 (W : Nat), .int .i64 (H : Nat)], .agg #[.slice Ap np cp, .slice Ak nk ck, .int .i64 x0, .int .i64 x1, .int .i64 y0, .int .i64 y1, .int .i64 s0, .int .i64 s1], .agg #[.int .i64 xd, .int .i64 xu, .int .i64 yd, .int .i64 yu], .int .i64 0]) (fun x w => by kernel_rfl) ?_
                intro x w F hL hN
                refine (HCOF.out w (onward HM.out.below hL)).mono ?_
                rintro e w' ⟨As, Am, ns, cs, nm, cm, sl, rfl, hb, hsl, hml2, hpw, hmm, hos, hom⟩
                have hnm := HNP.out.symm.trans hml2
                subst hnm
                exact ⟨fun j => if j = 0 then (As, cs) else if j = 1 then (none, ns) else (Am, cm), rfl, hb, sl, hsl, hpw, hmm, ⟨own_mono hos hL.size, fun g hg => hos.lt g hg⟩, ⟨own_mono hom hL.size, fun g hg => hom.lt g hg⟩⟩
              · exact obl_alloc 76 25 (.agg #[.slice none 0 0, .slice none 0 0, .int .i64 0, .int .i64 0, .int .i64 0, .int .i64 0, .int .i64 0]) (by kernel_rfl) (by kernel_rfl) (fun _ => rfl) (fun _ _ _ h => h)
              · refine obl_store 76 25 174 10 #[.slice none 0 0, .slice none 0 0, .int .i64 0, .int .i64 0, .int .i64 0, .int .i64 0, .int .i64 0] (fun x => #[.slice (x 6 0).1 (x 6 1).2 (x 6 0).2, .slice (x 6 2).1 np (x 6 2).2, .int .i64 xd, .int .i64 xu, .int .i64 yd, .int .i64 yu, .int .i64 0]) (by kernel_rfl) rfl (by simp) (fun _ _ _ h => h) (fun _ => rfl) (fun _ => rfl) (fun _ => by kernel_rfl) (fun _ => rfl) (fun _ => by simp [Value.oneCell']) (fun _ => rfl) (by decide) (fun _ _ _ _ h => h)
            · refine ⟨?_, ?_, ?_, trivial⟩
              · exact ⟨CofRg.owe.1, fun x x' F w hx h => CofRg.owe.2 x x' F w (hx 6 (by simp)) h⟩
              · exact owe_ptr 10 _ _ (fun x => #[.slice none 0 0, .slice none 0 0, .int .i64 0, .int .i64 0, .int .i64 0, .int .i64 0, .int .i64 0]) (fun _ _ _ => rfl) (by simp) (fun _ _ _ => rfl)
              · exact owe_ptr 10 _ _ (fun x => #[.slice (x 6 0).1 (x 6 1).2 (x 6 0).2, .slice (x 6 2).1 np (x 6 2).2, .int .i64 xd, .int .i64 xu, .int .i64 yd, .int .i64 yu, .int .i64 0]) (fun _ _ _ => rfl) (by simp) (fun x x' hx => by simp only [hx 6 (by simp)])
            intro xx w6 F hL hlv2
            obtain ⟨fct6, -, fct11, -⟩ := hlv2
            replace fct6 : CofRg 6 w5.heap.size (s.ki k) (s.pix.getD k []) np xx (F 6) w6 := fct6 rfl
            replace fct11 : PtrF w6 (F 11) w5.heap.size (xx 10 0).1 76 #[.slice (xx 6 0).1 (xx 6 1).2 (xx 6 0).2, .slice (xx 6 2).1 np (xx 6 2).2, .int .i64 xd, .int .i64 xu, .int .i64 yd, .int .i64 yu, .int .i64 0] := fct11 rfl
            obtain ⟨sl, hsl, hpw, hmm, hos, hom⟩ := fct6
            obtain ⟨pC, hgs, hge, -, hbg⟩ := fct11
            have hosl := own_mono hos.1 HM.out.size
            have homl := own_mono hom.1 HM.out.size
            rw [hgs]
            clear hos hom
            generalize (xx 6 0).1 = As at *
            generalize (xx 6 1).2 = ns at *
            generalize (xx 6 0).2 = cs at *
            generalize (xx 6 2).1 = Am at *
            generalize (xx 6 2).2 = cm at *
            generalize (xx 11 0).1 = x11 at *
            have HM1 := hide (HM.out.add (t := .blk pC 76 _) hL (show Blk _ _ _ _ from hbg) (fun k hk => by rw [List.mem_singleton.1 hk]; exact hge))
            have hcl : ClG N T mx my s k ⟨As, Am, ns, cs, np, cm, xd, xu, yd, yu, sl, s.pix.getD k []⟩ := ⟨⟨hsl, HNP.out, hnp1, HMN.out, HMR.out, hpw, fun p hp => HKM.out p ((hmm p).1 hp), HFX.out, HFY.out⟩, rfl, fun p hp => by
              obtain ⟨y, hy, hpy⟩ := List.mem_flatMap.1 ((hmm p).1 hp)
              exact ⟨y, hy, hpy⟩, HCLD.out⟩
            have HLA2 := hide ((HLA.out.later hL).snoc (c := ⟨As, Am, ns, cs, np, cm, xd, xu, yd, yu, sl, s.pix.getD k []⟩) ⟨hosl, homl⟩)
            have hLg2 := HLG.out.snoc (c := ⟨As, Am, ns, cs, np, cm, xd, xu, yd, yu, sl, s.pix.getD k []⟩) (by rw [HLn.out]; exact hcl)
            have HLG2 := hide hLg2
            clear hLg2
            clear HM HLA hL hbg hge hgs hosl homl hsl hpw hmm hcl f0 f1 f2 f3 ltf bf g0 g1 g2 g3 g4 ltg bG a0 a1 a2 a3 a4 a5 a6 a7 lta bA HCOF HLG
            have HM := HM1
            clear HM1
            have bc : Blk w6 pC 76 #[.slice As ns cs, .slice Am np cm, .int .i64 xd, .int .i64 xu, .int .i64 yd, .int .i64 yu, .int .i64 0] := HM.out.get 0 rfl
            have ltc := bc.lt
            have c0 := bc.c 0 rfl
            have c1 := bc.c 1 rfl
            have c2 := bc.c 2 rfl
            have c3 := bc.c 3 rfl
            have c4 := bc.c 4 rfl
            have c5 := bc.c 5 rfl
            have c6 := bc.c 6 rfl
            obtain ⟨i0, hi0, hz0, hz1, hz2⟩ := info_parts cloudInfo
            have Hi := hide hi0
            have Hz0 := hide hz0
            have Hz1 := hide hz1
            have Hz2 := hide hz2
            clear hi0 hz0 hz1 hz2
            have How := hide (HM.out.row_ 4 rfl)
            go_wp2_with (at_builtin; refine wpList_append_own_at _ rfl (.tmp 178) (.tmp 180) _ rfl w0.heap.size 76 i0 _ 7 88 Try.underlying30 Hi.out Hz0.out Hz1.out Hz2.out rfl (by decide) _ _ _ rfl (How.out.alloc _) ⟨w6.heap.size, 0, none⟩ 1 1 [.slice As ns cs, .slice Am np cm, .int .i64 xd, .int .i64 xu, .int .i64 yd, .int .i64 yu, .int .i64 0] rfl rfl ?c1 ?c2 ?c3 ?c4 ?c5 ?_)
            case c1 => exact new_cellsQ w6 _ [.slice As ns cs, .slice Am np cm, .int .i64 xd, .int .i64 xu, .int .i64 yd, .int .i64 yu, .int .i64 0]
            case c2 => intro u hu; simp only [List.mem_cons, List.not_mem_nil, or_false] at hu; rcases hu with rfl | rfl | rfl | rfl | rfl | rfl | rfl <;> rfl
            case c3 => unfold maxLen; omega
            case c4 => omega
            case c5 => have := HM.out.size; simp; omega
            intro v8 w8 hownA hgrA _ hatA
            have hM8 := (HM.out.grow 4 rfl _ hgrA hownA hatA).sub (.cons _ (.cons _ (.cons _ (.cons _ (List.Sublist.refl _)))))
            have hY8 := HLA2.out.grow How.out hgrA
            have HS := hide (show ClS N T mx my s w0 v8 (k + 1) w8 from ⟨L ++ [⟨As, Am, ns, cs, np, cm, xd, xu, yd, yu, sl, s.pix.getD k []⟩], by rw [List.length_append, HLn.out]; rfl, HLG2.out, hY8, by rw [cldCells_app]; exact hM8⟩)
            clear HM How hownA hgrA hatA hM8 hY8 HLA2 HLG2 c0 c1 c2 c3 c4 c5 c6 ltc bc
            go_wp2_with fail
            go_roundw
            case rel => exact ⟨k + 1, hlt, by go_num, HS⟩
            case measure => simp [intOf] <;> omega
      · subst hf1
        go_upto_region 38 with fail
        obtain ⟨ul, hule⟩ : ∃ q : Int, q = -2 := ⟨_, rfl⟩
        obtain ⟨uh, huhe⟩ : ∃ q : Int, q = 2 := ⟨_, rfl⟩
        have hul : -2 ≤ ul ∧ ul ≤ mx ∧ mx ≤ uh ∧ uh ≤ 2 := by omega
        have hvl : -2 ≤ ul ∧ ul ≤ my ∧ my ≤ uh ∧ uh ≤ 2 := by omega
        obtain ⟨vl, hvle⟩ : ∃ q : Int, q = ul := ⟨_, rfl⟩
        obtain ⟨vh, hvhe⟩ : ∃ q : Int, q = uh := ⟨_, rfl⟩
        rw [← hvle, ← hvhe] at hvl
        have HM1 := hide (show Mem w0 [.blk pv 60 #[.int .i64 vl, .int .i64 vh], .blk pu 60 #[.int .i64 ul, .int .i64 uh], .row w0.heap.size 76 7 (.slice Av k cv) k (cldCells L)] W3 from by rw [hvle, hvhe, hule, huhe]; exact HM.out)
        clear HM hule huhe hvle hvhe
        have HM := HM1
        clear HM1
        obtain ⟨xd, hxd⟩ : ∃ q, flLo ul T = q := ⟨_, rfl⟩
        obtain ⟨xu, hxu⟩ : ∃ q, flHi uh T = q := ⟨_, rfl⟩
        obtain ⟨yd, hyd⟩ : ∃ q, flLo vl T = q := ⟨_, rfl⟩
        obtain ⟨yu, hyu⟩ : ∃ q, flHi vh T = q := ⟨_, rfl⟩
        have hfx : insB xd xu (-100000) 100000 = true := by rw [← hxd, ← hxu]; exact fl_ins (by omega) (by omega) (by omega) (by omega)
        have hfy : insB yd yu (-100000) 100000 = true := by rw [← hyd, ← hyu]; exact fl_ins (by omega) (by omega) (by omega) (by omega)
        have hft := fun V => Fit_ok ul uh vl vh T xd xu yd yu V (by omega) (by omega) (by omega) (by omega) (by omega) (by omega) (by omega) hxd hxu hyd hyu hfx hfy
        have hcof := fun V (hB : Below w0.heap.size w0 V) => HCO.out V hB xd xu yd yu hfx hfy
        have hcld : ∃ ul uh vl vh : Int, (-2 ≤ ul ∧ ul ≤ mx ∧ mx ≤ uh ∧ uh ≤ 2) ∧ (-2 ≤ vl ∧ vl ≤ my ∧ my ≤ vh ∧ vh ≤ 2) ∧ xd = flLo ul T ∧ xu = flHi uh T ∧ yd = flLo vl T ∧ yu = flHi vh T := ⟨ul, uh, vl, vh, hul, hvl, hxd.symm, hxu.symm, hyd.symm, hyu.symm⟩
        have HFT := hide hft
        have HCOF := hide hcof
        have HCLD := hide hcld
        have HFX := hide hfx
        have HFY := hide hfy
        clear hft hcof hcld hfx hfy
        clear hxd hxu hyd hyu hul hvl HCO
        have bc : Blk W3 pu 60 #[.int .i64 ul, .int .i64 uh] := HM.out.get 1 rfl
        have ltc := bc.lt
        have c0 := bc.c 0 rfl
        have c1 := bc.c 1 rfl
        have bd : Blk W3 pv 60 #[.int .i64 vl, .int .i64 vh] := HM.out.get 0 rfl
        have ltd := bd.lt
        have d0 := bd.c 0 rfl
        have d1 := bd.c 1 rfl
        have bX := HX2.out W3 HM.out.below
        have a0 := bX.c 0 rfl
        have a1 := bX.c 1 rfl
        have a2 := bX.c 2 rfl
        have a3 := bX.c 3 rfl
        have a4 := bX.c 4 rfl
        have a5 := bX.c 5 rfl
        have a6 := bX.c 6 rfl
        have lta := bX.lt
        go_wp2_with fail
        apply wp_region_L (w0 := W3) [[], [], [], [], [], [], [], [], [], [8], [8, 9]] [true, true, true, true, true, true, true, true, false, false, true] [⟨8, none, [], []⟩, ⟨9, some 8, [8], [8]⟩] (fun ixq y => match ixq with | 8 => .pointer (y 0).1 | 9 => undef | _ => undef) (fun ixq x F wq => match ixq with | 8 => PtrF wq F W3.heap.size (x 8 0).1 72 #[.int .i64 0, .int .i64 0, .int .i64 0, .int .i64 0] | 9 => PtrF wq F W3.heap.size (x 8 0).1 72 #[.int .i64 xd, .int .i64 xu, .int .i64 yd, .int .i64 yu] | _ => True) (fun a x => ((a).put (some 24) (.pointer ((x 8) 0).1)).put (none) (undef)) (by kernel_rfl) (by kernel_rfl) (fun x => putH_step (some 24) (.pointer ((x 8) 0).1) rfl rfl <| putH_step (none) (undef) rfl rfl <| putH_end) [160, 161] (by kernel_rfl)
        · intro x D hD
          have hne := hD.some
          have k0 := liftB hD c0 (by first | assumption | omega)
          have k1 := liftB hD c1 (by first | assumption | omega)
          have k2 := liftB hD d0 (by first | assumption | omega)
          have k3 := liftB hD d1 (by first | assumption | omega)
          have k4 := liftB hD a0 (by first | assumption | omega)
          have k5 := liftB hD a1 (by first | assumption | omega)
          have k6 := liftB hD a2 (by first | assumption | omega)
          have k7 := liftB hD a3 (by first | assumption | omega)
          have k8 := liftB hD a4 (by first | assumption | omega)
          have k9 := liftB hD a5 (by first | assumption | omega)
          have k10 := liftB hD a6 (by first | assumption | omega)
          simp only [takeOps, Act.put, List.setIfInBounds_toArray, List.set_cons_succ, List.set_cons_zero]
          repeat (go_big_quiet_step ((first | (go_at_call 7; with_reducible exact calls_later hD _ (HSC.out _)) | (go_at_call 19; with_reducible exact calls_later hD _ (HFT.out _)))))
          exact wpQuiet_nil rfl
        · intro d hd x x'
          simp only [List.mem_cons, List.not_mem_nil, or_false] at hd
          rcases hd with rfl | rfl
          all_goals rfl
        · refine ⟨?_, ?_, trivial⟩
          · exact obl_alloc 72 24 (.agg #[.int .i64 0, .int .i64 0, .int .i64 0, .int .i64 0]) (by kernel_rfl) (by kernel_rfl) (fun _ => rfl) (fun _ _ _ h => h)
          · refine obl_store 72 24 162 8 #[.int .i64 0, .int .i64 0, .int .i64 0, .int .i64 0] (fun x => #[.int .i64 xd, .int .i64 xu, .int .i64 yd, .int .i64 yu]) (by kernel_rfl) rfl (by simp) (fun _ _ _ h => h) (fun _ => rfl) (fun _ => rfl) (fun _ => by kernel_rfl) (fun _ => rfl) (fun _ => by simp [Value.oneCell']) (fun _ => rfl) (by decide) (fun _ _ _ _ h => h)
        · refine ⟨?_, ?_, trivial⟩
          · exact owe_ptr 8 _ _ (fun x => #[.int .i64 0, .int .i64 0, .int .i64 0, .int .i64 0]) (fun _ _ _ => rfl) (by simp) (fun _ _ _ => rfl)
          · exact owe_ptr 8 _ _ (fun x => #[.int .i64 xd, .int .i64 xu, .int .i64 yd, .int .i64 yu]) (fun _ _ _ => rfl) (by simp) (fun _ _ _ => rfl)
        intro xx w5 F hL hlv3
        obtain ⟨-, fct9, -⟩ := hlv3
        replace fct9 : PtrF w5 (F 9) W3.heap.size (xx 8 0).1 72 #[.int .i64 xd, .int .i64 xu, .int .i64 yd, .int .i64 yu] := fct9 rfl
        obtain ⟨pF, hgs, hge, -, hbg⟩ := fct9
        rw [hgs]
        generalize (xx 9 0).1 = x9 at *
        have HM1 := hide (HM.out.add (t := .blk pF 72 _) hL (show Blk _ _ _ _ from hbg) (fun k hk => by rw [List.mem_singleton.1 hk]; exact hge))
        replace HLA := hide (HLA.out.later hL)
        clear HM hL hbg hge hgs c0 c1 ltc bc d0 d1 ltd bd a0 a1 a2 a3 a4 a5 a6 lta bX HFT
        have HM := HM1
        clear HM1
        have bf : Blk w5 pF 72 #[.int .i64 xd, .int .i64 xu, .int .i64 yd, .int .i64 yu] := HM.out.get 0 rfl
        have ltf := bf.lt
        have f0 := bf.c 0 rfl
        have f1 := bf.c 1 rfl
        have f2 := bf.c 2 rfl
        have f3 := bf.c 3 rfl
        have bG := HG2.out w5 HM.out.below
        have g0 := bG.c 0 rfl
        have g1 := bG.c 1 rfl
        have g2 := bG.c 2 rfl
        have g3 := bG.c 3 rfl
        have g4 := bG.c 4 rfl
        have ltg := bG.lt
        have bA := HBO.out w5 HM.out.below
        have a0 := bA.c (k * 8) ((cellsV_at (by omega)).trans (congrArg some HH0.out))
        have a1 := bA.c (k * 8 + 1) ((cellsV_at (by omega)).trans (congrArg some HH1.out))
        have a2 := bA.c (k * 8 + 2) ((cellsV_at (by omega)).trans (congrArg some HH2.out))
        have a3 := bA.c (k * 8 + 3) ((cellsV_at (by omega)).trans (congrArg some HH3.out))
        have a4 := bA.c (k * 8 + 4) ((cellsV_at (by omega)).trans (congrArg some HH4.out))
        have a5 := bA.c (k * 8 + 5) ((cellsV_at (by omega)).trans (congrArg some HH5.out))
        have a6 := bA.c (k * 8 + 6) ((cellsV_at (by omega)).trans (congrArg some HH6.out))
        have a7 := bA.c (k * 8 + 7) ((cellsV_at (by omega)).trans (congrArg some HH7.out))
        have lta := bA.lt
        go_wp2_with fail
        apply wp_region_L (w0 := w5) [[], [], [], [], [], [], [], [6], [6], [6], [], [6, 10], [6, 10, 11]] [true, true, true, true, true, true, false, true, true, true, false, false, true] [⟨6, none, [], []⟩, ⟨10, none, [], []⟩, ⟨11, some 10, [10], [6, 10]⟩] (fun ixq y => match ixq with | 6 => .tuple #[.agg #[.slice (y 0).1 (y 1).2 (y 0).2, .slice (y 2).1 np (y 2).2, .int .i64 xd, .int .i64 xu, .int .i64 yd, .int .i64 yu, .int .i64 0], .int .i64 0] | 10 => .pointer (y 0).1 | 11 => undef | _ => undef) (fun ixq x F wq => match ixq with | 6 => CofRg 6 w5.heap.size (s.ki k) (s.pix.getD k []) np x F wq | 10 => PtrF wq F w5.heap.size (x 10 0).1 76 #[.slice none 0 0, .slice none 0 0, .int .i64 0, .int .i64 0, .int .i64 0, .int .i64 0, .int .i64 0] | 11 => PtrF wq F w5.heap.size (x 10 0).1 76 #[.slice (x 6 0).1 (x 6 1).2 (x 6 0).2, .slice (x 6 2).1 np (x 6 2).2, .int .i64 xd, .int .i64 xu, .int .i64 yd, .int .i64 yu, .int .i64 0] | _ => True) (fun a x => (((a).put (some 173) (.tuple #[.agg #[.slice ((x 6) 0).1 ((x 6) 1).2 ((x 6) 0).2, .slice ((x 6) 2).1 np ((x 6) 2).2, .int .i64 xd, .int .i64 xu, .int .i64 yd, .int .i64 yu, .int .i64 0], .int .i64 0])).put (some 25) (.pointer ((x 10) 0).1)).put (none) (undef)) (by kernel_rfl) (by kernel_rfl) (fun x => putH_step (some 173) (.tuple #[.agg #[.slice ((x 6) 0).1 ((x 6) 1).2 ((x 6) 0).2, .slice ((x 6) 2).1 np ((x 6) 2).2, .int .i64 xd, .int .i64 xu, .int .i64 yd, .int .i64 yu, .int .i64 0], .int .i64 0]) rfl rfl <| putH_step (some 25) (.pointer ((x 10) 0).1) rfl rfl <| putH_step (none) (undef) rfl rfl <| putH_end) [] (by kernel_rfl)
        · intro x D hD
          have hne := hD.some
          have k0 := liftB hD g0 (by first | assumption | omega)
          have k1 := liftB hD g1 (by first | assumption | omega)
          have k2 := liftB hD g2 (by first | assumption | omega)
          have k3 := liftB hD g3 (by first | assumption | omega)
          have k4 := liftB hD g4 (by first | assumption | omega)
          have k5 := liftB hD a0 (by first | assumption | omega)
          have k6 := liftB hD a1 (by first | assumption | omega)
          have k7 := liftB hD a2 (by first | assumption | omega)
          have k8 := liftB hD a3 (by first | assumption | omega)
          have k9 := liftB hD a4 (by first | assumption | omega)
          have k10 := liftB hD a5 (by first | assumption | omega)
          have k11 := liftB hD a6 (by first | assumption | omega)
          have k12 := liftB hD a7 (by first | assumption | omega)
          have k13 := liftB hD f0 (by first | assumption | omega)
          have k14 := liftB hD f1 (by first | assumption | omega)
          have k15 := liftB hD f2 (by first | assumption | omega)
          have k16 := liftB hD f3 (by first | assumption | omega)
          simp only [takeOps, Act.put, List.setIfInBounds_toArray, List.set_cons_succ, List.set_cons_zero]
          repeat (go_big_quiet_step (fail))
          exact wpQuiet_nil rfl
        · exact fun _ h => absurd h (by simp)
        · refine ⟨?_, ?_, ?_, trivial⟩
          · refine obl_callL rfl (fun _ => by kernel_rfl) 20 (fun x => #[.agg #[.int .i64 0, .int .i64 0, .int .i64 1000, .int .i64 (W : Nat), .int .i64 (H : Nat)], .agg #[.slice Ap np cp, .slice Ak nk ck, .int .i64 x0, .int .i64 x1, .int .i64 y0, .int .i64 y1, .int .i64 s0, .int .i64 s1], .agg #[.int .i64 xd, .int .i64 xu, .int .i64 yd, .int .i64 yu], .int .i64 0]) (fun x w => by kernel_rfl) ?_
            intro x w F hL hN
            refine (HCOF.out w (onward HM.out.below hL)).mono ?_
            rintro e w' ⟨As, Am, ns, cs, nm, cm, sl, rfl, hb, hsl, hml2, hpw, hmm, hos, hom⟩
            have hnm := HNP.out.symm.trans hml2
            subst hnm
            exact ⟨fun j => if j = 0 then (As, cs) else if j = 1 then (none, ns) else (Am, cm), rfl, hb, sl, hsl, hpw, hmm, ⟨own_mono hos hL.size, fun g hg => hos.lt g hg⟩, ⟨own_mono hom hL.size, fun g hg => hom.lt g hg⟩⟩
          · exact obl_alloc 76 25 (.agg #[.slice none 0 0, .slice none 0 0, .int .i64 0, .int .i64 0, .int .i64 0, .int .i64 0, .int .i64 0]) (by kernel_rfl) (by kernel_rfl) (fun _ => rfl) (fun _ _ _ h => h)
          · refine obl_store 76 25 174 10 #[.slice none 0 0, .slice none 0 0, .int .i64 0, .int .i64 0, .int .i64 0, .int .i64 0, .int .i64 0] (fun x => #[.slice (x 6 0).1 (x 6 1).2 (x 6 0).2, .slice (x 6 2).1 np (x 6 2).2, .int .i64 xd, .int .i64 xu, .int .i64 yd, .int .i64 yu, .int .i64 0]) (by kernel_rfl) rfl (by simp) (fun _ _ _ h => h) (fun _ => rfl) (fun _ => rfl) (fun _ => by kernel_rfl) (fun _ => rfl) (fun _ => by simp [Value.oneCell']) (fun _ => rfl) (by decide) (fun _ _ _ _ h => h)
        · refine ⟨?_, ?_, ?_, trivial⟩
          · exact ⟨CofRg.owe.1, fun x x' F w hx h => CofRg.owe.2 x x' F w (hx 6 (by simp)) h⟩
          · exact owe_ptr 10 _ _ (fun x => #[.slice none 0 0, .slice none 0 0, .int .i64 0, .int .i64 0, .int .i64 0, .int .i64 0, .int .i64 0]) (fun _ _ _ => rfl) (by simp) (fun _ _ _ => rfl)
          · exact owe_ptr 10 _ _ (fun x => #[.slice (x 6 0).1 (x 6 1).2 (x 6 0).2, .slice (x 6 2).1 np (x 6 2).2, .int .i64 xd, .int .i64 xu, .int .i64 yd, .int .i64 yu, .int .i64 0]) (fun _ _ _ => rfl) (by simp) (fun x x' hx => by simp only [hx 6 (by simp)])
        intro xx w6 F hL hlv4
        obtain ⟨fct6, -, fct11, -⟩ := hlv4
        replace fct6 : CofRg 6 w5.heap.size (s.ki k) (s.pix.getD k []) np xx (F 6) w6 := fct6 rfl
        replace fct11 : PtrF w6 (F 11) w5.heap.size (xx 10 0).1 76 #[.slice (xx 6 0).1 (xx 6 1).2 (xx 6 0).2, .slice (xx 6 2).1 np (xx 6 2).2, .int .i64 xd, .int .i64 xu, .int .i64 yd, .int .i64 yu, .int .i64 0] := fct11 rfl
        obtain ⟨sl, hsl, hpw, hmm, hos, hom⟩ := fct6
        obtain ⟨pC, hgs, hge, -, hbg⟩ := fct11
        have hosl := own_mono hos.1 HM.out.size
        have homl := own_mono hom.1 HM.out.size
        rw [hgs]
        clear hos hom
        generalize (xx 6 0).1 = As at *
        generalize (xx 6 1).2 = ns at *
        generalize (xx 6 0).2 = cs at *
        generalize (xx 6 2).1 = Am at *
        generalize (xx 6 2).2 = cm at *
        generalize (xx 11 0).1 = x11 at *
        have HM1 := hide (HM.out.add (t := .blk pC 76 _) hL (show Blk _ _ _ _ from hbg) (fun k hk => by rw [List.mem_singleton.1 hk]; exact hge))
        have hcl : ClG N T mx my s k ⟨As, Am, ns, cs, np, cm, xd, xu, yd, yu, sl, s.pix.getD k []⟩ := ⟨⟨hsl, HNP.out, hnp1, HMN.out, HMR.out, hpw, fun p hp => HKM.out p ((hmm p).1 hp), HFX.out, HFY.out⟩, rfl, fun p hp => by
          obtain ⟨y, hy, hpy⟩ := List.mem_flatMap.1 ((hmm p).1 hp)
          exact ⟨y, hy, hpy⟩, HCLD.out⟩
        have HLA2 := hide ((HLA.out.later hL).snoc (c := ⟨As, Am, ns, cs, np, cm, xd, xu, yd, yu, sl, s.pix.getD k []⟩) ⟨hosl, homl⟩)
        have hLg2 := HLG.out.snoc (c := ⟨As, Am, ns, cs, np, cm, xd, xu, yd, yu, sl, s.pix.getD k []⟩) (by rw [HLn.out]; exact hcl)
        have HLG2 := hide hLg2
        clear hLg2
        clear HM HLA hL hbg hge hgs hosl homl hsl hpw hmm hcl f0 f1 f2 f3 ltf bf g0 g1 g2 g3 g4 ltg bG a0 a1 a2 a3 a4 a5 a6 a7 lta bA HCOF HLG
        have HM := HM1
        clear HM1
        have bc : Blk w6 pC 76 #[.slice As ns cs, .slice Am np cm, .int .i64 xd, .int .i64 xu, .int .i64 yd, .int .i64 yu, .int .i64 0] := HM.out.get 0 rfl
        have ltc := bc.lt
        have c0 := bc.c 0 rfl
        have c1 := bc.c 1 rfl
        have c2 := bc.c 2 rfl
        have c3 := bc.c 3 rfl
        have c4 := bc.c 4 rfl
        have c5 := bc.c 5 rfl
        have c6 := bc.c 6 rfl
        obtain ⟨i0, hi0, hz0, hz1, hz2⟩ := info_parts cloudInfo
        have Hi := hide hi0
        have Hz0 := hide hz0
        have Hz1 := hide hz1
        have Hz2 := hide hz2
        clear hi0 hz0 hz1 hz2
        have How := hide (HM.out.row_ 4 rfl)
        go_wp2_with (at_builtin; refine wpList_append_own_at _ rfl (.tmp 178) (.tmp 180) _ rfl w0.heap.size 76 i0 _ 7 88 Try.underlying30 Hi.out Hz0.out Hz1.out Hz2.out rfl (by decide) _ _ _ rfl (How.out.alloc _) ⟨w6.heap.size, 0, none⟩ 1 1 [.slice As ns cs, .slice Am np cm, .int .i64 xd, .int .i64 xu, .int .i64 yd, .int .i64 yu, .int .i64 0] rfl rfl ?c1 ?c2 ?c3 ?c4 ?c5 ?_)
        case c1 => exact new_cellsQ w6 _ [.slice As ns cs, .slice Am np cm, .int .i64 xd, .int .i64 xu, .int .i64 yd, .int .i64 yu, .int .i64 0]
        case c2 => intro u hu; simp only [List.mem_cons, List.not_mem_nil, or_false] at hu; rcases hu with rfl | rfl | rfl | rfl | rfl | rfl | rfl <;> rfl
        case c3 => unfold maxLen; omega
        case c4 => omega
        case c5 => have := HM.out.size; simp; omega
        intro v8 w8 hownA hgrA _ hatA
        have hM8 := (HM.out.grow 4 rfl _ hgrA hownA hatA).sub (.cons _ (.cons _ (.cons _ (.cons _ (List.Sublist.refl _)))))
        have hY8 := HLA2.out.grow How.out hgrA
        have HS := hide (show ClS N T mx my s w0 v8 (k + 1) w8 from ⟨L ++ [⟨As, Am, ns, cs, np, cm, xd, xu, yd, yu, sl, s.pix.getD k []⟩], by rw [List.length_append, HLn.out]; rfl, HLG2.out, hY8, by rw [cldCells_app]; exact hM8⟩)
        clear HM How hownA hgrA hatA hM8 hY8 HLA2 HLG2 c0 c1 c2 c3 c4 c5 c6 ltc bc
        go_wp2_with fail
        go_roundw
        case rel => exact ⟨k + 1, hlt, by go_num, HS⟩
        case measure => simp [intOf] <;> omega
    · obtain rfl : K = k := by omega
      have hkk : ¬ ((K : Int) < K) := by omega
      go_wp2_with fail
      exact HX.out ⟨L, HLn.out, HLG.out, HLA.out, HM.out⟩
end Go.Proofs.Ytidbjidcjmbnlaa
end
section
namespace Go.Proofs.Ytidbjidcjmbnlaa
open Go Go.RowKit

theorem Bk.more {B : Bk} {b : Nat} {R1 R2 : List Th} : B.ts b R1 ++ R2 = B.ts b (R1 ++ R2) := by
  unfold Bk.ts
  simp only [List.cons_append, List.append_assoc]
theorem Bk.low {B : Bk} {b b' : Nat} {R : List Th} : (B.ts b R).map (Th.loB b') = B.ts b' (R.map (Th.loB b')) := by
  unfold Bk.ts
  simp only [List.map_cons, List.map_append, List.map_map]
  rfl
theorem Bk.push {B : Bk} {b : Nat} {t : Th} {R : List Th} : (t :: B.ts b R).Perm (B.ts b (t :: R)) := by
  unfold Bk.ts
  have e : ∀ (a c d f : Th) (X Y Z R : List Th), a :: c :: d :: f :: (X ++ (Y ++ (Z ++ R))) = (a :: c :: d :: f :: (X ++ (Y ++ Z))) ++ R := fun a c d f X Y Z R => by simp only [List.cons_append, List.append_assoc]
  rw [e, e]
  exact List.perm_middle.symm
theorem Spr.Ok.plen {s : Spr} {W H : Nat} {may inn : Nat → Bool} (h : s.Ok W H may inn) : s.pix.length = s.K := by unfold Spr.pix; rw [List.length_map, List.length_reverse]; exact h.len
/-- A new book, joined to what lies there. -/
theorem Bk.joined {w0 w w' : World} {B : Bk} {ts : List Th} (h0 : Mem w0 ts w) (h : Mem w (B.ts w.heap.size []) w') : Mem w0 (B.ts w0.heap.size ts) w' := by
  have h1 := h.lowAll (b := w0.heap.size) h0.size
  rw [Bk.low] at h1
  have h2 := h0.joinL h1
  rw [List.map_nil, Bk.more] at h2
  exact h2
/-- A row of its own comes to what lies beside a book. -/
theorem Bk.row {w0 w w' : World} {B : Bk} {R : List Th} {e : TypeId} {size n : Nat} {v : Value} {xs : List Value} (h0 : Mem w0 (B.ts w0.heap.size R) w) (hb : Below w.heap.size w w') (ho : w'.ownsRow w.heap.size e size v n xs) : Mem w0 (B.ts w0.heap.size (.row w0.heap.size e size v n xs :: R)) w' :=
  ((h0.called hb ho).lowRow 0 rfl h0.size).perm Bk.push
/-- The book behind two maps. -/
def Bk2 (W H : Nat) (may0 in0 may1 in1 : Nat → Bool) (w : World) (p : Nat) (TH : List Th) (wr : World) : Prop :=
  ∃ (B : Bk) (s0 s1 : Spr) (E : List Evm) (L : Nd → Nd) (R : List Th), B.p = p ∧ B.S = [s0, s1] ∧ B.W = W ∧ B.H = H ∧ B.rch = 2 ∧ s0.Ok W H may0 in0 ∧ s1.Ok W H may1 in1 ∧ EvI L s0.K s1.K (E.map Evm.e) ∧ NearE W H 2 s0.f s1.f L ∧ (∀ j, j < s1.K → KnownA E B.T B.of j) ∧
    (B.T.length ≤ 200 ∧ ∀ (q : Nat) (t : Trk), B.T[q]? = some t → t.al.length ≤ 100 ∧ t.pl.length ≤ 100 ∧ t.cl.length ≤ 6400) ∧ (∀ t ∈ s0.ts w.heap.size (W * H), t ∈ R) ∧ (∀ t ∈ s1.ts w.heap.size (W * H), t ∈ R) ∧ (∀ t ∈ TH, t ∈ R) ∧ Mem w (B.ts w.heap.size R) wr
/-- The book behind one map. -/
def Bk1 (W H : Nat) (may0 in0 : Nat → Bool) (w : World) (p mb : Nat) (TH : List Th) (wr : World) : Prop :=
  ∃ (mv tv : Value) (kz : Nat → Int) (T : List Trk) (of : Nat × Nat → Option Nat) (c : Nat) (s : Spr) (R : List Th), s.Ok W H may0 in0 ∧ FirstT T of s.K ∧ c ≤ s.K ∧ (∀ t ∈ s.ts w.heap.size (W * H), t ∈ R) ∧ (∀ t ∈ TH, t ∈ R) ∧
    Mem w ((⟨0, 0, 1000, W, H, 5, 2, 0, p, mb, c, mv, tv, kz, [s], T, of⟩ : Bk).ts w.heap.size R) wr
/-- What is known of the area i of the later map. -/
theorem area_known {M : Mvd} {may0 in0 may1 in1 : Nat → Bool} {s0 s1 s : Spr} {E : List Evm} {L : Nd → Nd} {T : List Trk} {of : Nat × Nat → Option Nat} (hx : -2 ≤ M.mx ∧ M.mx ≤ 2) (hy : -2 ≤ M.my ∧ M.my ≤ 2) (F0 : FieldOk M 0 may0 in0) (F1 : FieldOk M 1 may1 in1) (h0 : s0.Ok M.W M.H may0 in0) (h1 : s1.Ok M.W M.H may1 in1) (h : s.Ok M.W M.H may1 in1)
    (hE : EvI L s0.K s1.K (E.map Evm.e)) (hN : NearE M.W M.H 2 s0.f s1.f L) (hK : ∀ j, j < s1.K → KnownA E T of j) {i : Nat} (hi : i < s.K) :
    ∃ k t, i < s1.K ∧ of (1, i) = some k ∧ T[k]? = some t ∧ (t.fr = 1 ∨ (t.fr = 0 ∧ t.al = [k, i] ∧ k < s0.K ∧ (M.mx, M.my) ∈ mvL (goodM M.W M.H s0 s1 k i) 25)) := by
  have hc := areas_count h.areas h1.areas
  rw [h.plen, h1.plen] at hc
  obtain ⟨k, t, hof, ht, hf⟩ := hK i (by omega)
  refine ⟨k, t, by omega, hof, ht, ?_⟩
  rcases hf with hf | ⟨hf, hal, x, hxE, x1, x2⟩
  · exact .inl hf
  · refine .inr ⟨hf, hal, ?_, mvL_of hx hy ?_⟩
    · have hE2 := hE
      rw [← h0.plen, ← h1.plen] at hE2
      have := ((ev_from hE2 (List.mem_map_of_mem hxE) (a := k)).1 (by rw [x1]; simp)).1
      rw [h0.plen] at this
      exact this
    · rw [← h0.plen, ← h1.plen] at hE
      have hxm := List.mem_map_of_mem (f := Evm.e) hxE
      unfold goodM
      rw [follow_on hx hy F0 F1 h0.areas h1.areas hN hE hxm x1 x2, follow_back hx hy F0 F1 h0.areas h1.areas hN hE hxm x1 x2]
      rfl
def CloudsPost (M : Mvd) (N : Nat) (T : Int) (may1 in1 : Nat → Bool) (w : World) (e : Ending) (w' : World) : Prop :=
  ∃ (v : Value) (L : List Cld) (s : Spr), e = .returned (.tuple #[v, .bool true]) ∧ s.Ok M.W M.H may1 in1 ∧ L.length = s.K ∧ ClsG N T M.mx M.my s L ∧ CldsAt w' w.heap.size L ∧ w'.ownsRow w.heap.size 76 7 v s.K (cldCells L) ∧ Below w.heap.size w w'
end Go.Proofs.Ytidbjidcjmbnlaa
end
section
namespace Go.Proofs.Ytidbjidcjmbnlaa
open Go Go.RowKit
attribute [local go_sem] Oper.semAt_some

/-- So many maps are in the book. -/
def ClL (W H : Nat) (may0 in0 may1 in1 : Nat → Bool) (w : World) (p mb : Nat) (TH : List Th) : Nat → World → Prop
  | 0, wr => Mem w ((⟨0, 0, 1000, W, H, 5, 2, -1, p, mb, 0, .slice none 0 0, .slice none 0 0, fun _ => 0, [], [], fun _ => none⟩ : Bk).ts w.heap.size TH) wr
  | 1, wr => Bk1 W H may0 in0 w p mb TH wr
  | _, wr => Bk2 W H may0 in0 may1 in1 w p TH wr
set_option maxHeartbeats 4000000 in
set_option maxRecDepth 100000 in
theorem movedClouds_any (wd hg nA cA xb yb nD cD sec W H N : Nat) (A D : Option Addr) (T : Int) (inl : List Bool) (dl : List Nat) (M : Mvd) (w : World) (hwd : wd < 256) (hhg : hg < 256) (hsec : sec < 65536) (hWe : 1 + wd % 8 = W) (hHe : 1 + hg % 8 = H) (hN : W * H = N) (hT : ((100 + sec % 500 : Nat) : Int) = T) (hxb : xb < 256) (hyb : yb < 256) (hM0 : mvdOf W H xb yb inl = M) (hnA : inl.length = nA) (hA64 : nA ≤ 9223372036854775807) (hnD : dl.length = nD) (hD64 : nD ≤ 9223372036854775807) (hI : Bools w w.heap.size A inl) (hDl : Ints w w.heap.size .u8 D (dl.map fun x : Nat => (x : Int))) (hd8 : ∀ x ∈ dl, x < 256) :
    Calls Try.prog 5 #[.agg (movedC wd hg A nA cA xb yb D nD cD sec)] w (CloudsPost M N T (mayB (knownL M dl 1 (1 * W * H) N) 5) (inB (knownL M dl 1 (1 * W * H) N) 5) w) := by
  have hW : 1 ≤ W := by omega
  have hH : 1 ≤ H := by omega
  have hW8 : W ≤ 8 := by omega
  have hH8 : H ≤ 8 := by omega
  have hN64 : N ≤ 64 := by rw [← hN]; exact Nat.mul_le_mul hW8 hH8
  have hT1 : 100 ≤ T ∧ T ≤ 599 := by omega
  have hmp := fun V (hB : Below w.heap.size w V) n (hn : n ≤ 2) => movedMap_any wd hg nA cA xb yb nD cD sec W H N n A D inl dl V hwd hhg hWe hHe hN hn hxb hyb hnA hA64 hnD hD64 (hI.later hB) ((hDl.below hB).more hB.size) hd8
  rw [hM0] at hmp
  have hmg := fun V => movedGrid_any wd hg nA cA xb yb nD cD sec A D V hwd hhg
  rw [hWe, hHe] at hmg
  have hsc := fun V => movedSeconds_any wd hg nA cA xb yb nD cD sec A D V hsec
  rw [hT] at hsc
  have hge : gridE 0 0 1000 W H = 0 := by
    unfold gridE winB
    rw [if_pos]
    simp
    omega
  have hnb := fun V => new_ok 0 0 1000 W H 2 5 V hge (by omega) (by omega)
  have hfe : ∀ n b, fieldE (gridE 0 0 1000 W H) (N : Nat) W H (knownL M dl n b N) 1073741824 = 0 := fun n b => by
    rw [← hN]
    exact known_field M dl n b W H hW hH hW8 hH8
  have hMW : M.W = W := by rw [← hM0]; rfl
  have hMH : M.H = H := by rw [← hM0]; rfl
  have hMx : M.mx = (xb : Int) % 5 - 2 := by rw [← hM0]; rfl
  have hMy : M.my = (yb : Int) % 5 - 2 := by rw [← hM0]; rfl
  have hfo : ∀ n b, FieldOk M n (mayB (knownL M dl n b N) 5) (inB (knownL M dl n b N) 5) := fun n b => by
    have := known_ok M dl n b
    rw [hMW, hMH, hN] at this
    exact this
  have hlv := fun n b => known_lev M dl n b N
  obtain ⟨l0, hl0⟩ : ∃ l, knownL M dl 0 (0 * W * H) N = l := ⟨_, rfl⟩
  obtain ⟨l1, hl1⟩ : ∃ l, knownL M dl 1 (1 * W * H) N = l := ⟨_, rfl⟩
  have hmp0 := fun V hB => hmp V hB 0 (by omega)
  have hmp1 := fun V hB => hmp V hB 1 (by omega)
  have hfe0 := hfe 0 (0 * W * H)
  have hfe1 := hfe 1 (1 * W * H)
  have hfo0 := hfo 0 (0 * W * H)
  have hfo1 := hfo 1 (1 * W * H)
  have hlv0 := hlv 0 (0 * W * H)
  have hlv1 := hlv 1 (1 * W * H)
  have hn0 := knownL_len (M := M) (dl := dl) (n := 0) (b := 0 * W * H) (k := N)
  have hn1 := knownL_len (M := M) (dl := dl) (n := 1) (b := 1 * W * H) (k := N)
  rw [hl0] at hmp0 hfe0 hfo0 hlv0 hn0
  rw [hl1] at hmp1 hfe1 hfo1 hlv1 hn1 ⊢
  obtain ⟨PP, hPP⟩ : ∃ PP, CloudsPost M N T (mayB l1 5) (inB l1 5) w = PP := ⟨_, rfl⟩
  rw [hPP]
  unfold MapPost at hmp0 hmp1
  unfold movedC at hmp0 hmp1 hmg hsc ⊢
  have ez0 : ((0 : Nat) : Int) = 0 := rfl
  have ez1 : ((1 : Nat) : Int) = 1 := rfl
  rw [ez0] at hmp0
  rw [ez1] at hmp1
  clear ez0 ez1
  have HMP0 := hide hmp0
  have HMP1 := hide hmp1
  have HMG := hide hmg
  have HSC := hide hsc
  have HNB := hide hnb
  have HFE0 := hide hfe0
  have HFE1 := hide hfe1
  have HFO0 := hide hfo0
  have HFO1 := hide hfo1
  have HLV0 := hide hlv0
  have HLV1 := hide hlv1
  have HN0 := hide hn0
  have HN1 := hide hn1
  have HPP := hide hPP
  have HNN := hide hN
  have HMW := hide hMW
  have HMH := hide hMH
  have HMX := hide hMx
  have HMY := hide hMy
  have HTT := hide hT
  clear hmp0 hmp1 hmg hsc hnb hfe0 hfe1 hfo0 hfo1 hlv0 hlv1 hn0 hn1 hPP hN hMW hMH hMx hMy hT
  clear hmp hfe hfo hlv hI hDl hnA hnD hd8 hM0 hl0 hl1 hge hWe hHe hwd hhg
  go_enter Try.func5, Try.ntmps5
  have HM := hide (Mem.start w)
  go_upto_region 1 with fail
  refine code_world fun W1 hW => ?_
  have HMn := Mem.to (Mem.allocAt HM.out w.heap.size rfl #[.int .u8 (wd : Nat), .int .u8 (hg : Nat), .slice A nA cA, .int .u8 (xb : Nat), .int .u8 (yb : Nat), .slice D nD cD, .int .u16 (sec : Nat)] 26) hW
  have LW : Later w W1 := by rw [hW]; exact ((Below.refl _ _).alloc (Nat.le_refl _) _)
  have szW : W1.heap.size = w.heap.size + 1 := by rw [hW]; simp
  clear hW
  replace HM := hide HMn
  clear HMn LW
  clear szW
  obtain ⟨pX, hpX⟩ : ∃ q, w.heap.size = q := ⟨_, rfl⟩
  rw [hpX] at HM
  simp only [hpX]
  clear hpX
  have ba : Blk W1 pX 26 #[.int .u8 (wd : Nat), .int .u8 (hg : Nat), .slice A nA cA, .int .u8 (xb : Nat), .int .u8 (yb : Nat), .slice D nD cD, .int .u16 (sec : Nat)] := HM.out.get 0 rfl
  have lta := ba.lt
  have a0 := ba.c 0 rfl
  have a1 := ba.c 1 rfl
  have a2 := ba.c 2 rfl
  have a3 := ba.c 3 rfl
  have a4 := ba.c 4 rfl
  have a5 := ba.c 5 rfl
  have a6 := ba.c 6 rfl
  go_wp2_with fail
  refine (HMG.out _).mono ?_
  rintro e w2 ⟨rfl, hb⟩
  replace HM := hide (HM.out.later hb)
  clear hb ba lta a0 a1 a2 a3 a4 a5 a6
  go_upto_region 2 with fail
  refine code_world fun W3 hW => ?_
  have HMn := Mem.to (Mem.allocAt HM.out w2.heap.size rfl #[.int .i64 0, .int .i64 0, .int .i64 1000, .int .i64 (W : Nat), .int .i64 (H : Nat)] 28) hW
  have LW : Later w2 W3 := by rw [hW]; exact ((Below.refl _ _).alloc (Nat.le_refl _) _)
  have szW : W3.heap.size = w2.heap.size + 1 := by rw [hW]; simp
  clear hW
  replace HM := hide HMn
  clear HMn LW
  clear szW
  obtain ⟨pG, hpG⟩ : ∃ q, w2.heap.size = q := ⟨_, rfl⟩
  rw [hpG] at HM
  simp only [hpG]
  clear hpG
  have bg : Blk W3 pG 28 #[.int .i64 0, .int .i64 0, .int .i64 1000, .int .i64 (W : Nat), .int .i64 (H : Nat)] := HM.out.get 0 rfl
  have ltg := bg.lt
  have g0 := bg.c 0 rfl
  have g1 := bg.c 1 rfl
  have g2 := bg.c 2 rfl
  have g3 := bg.c 3 rfl
  have g4 := bg.c 4 rfl
  go_wp2_with fail
  refine (HNB.out W3).mono ?_
  rintro e w4 ⟨p, mb, rfl, hm4⟩
  obtain ⟨TH, hTH⟩ : ∃ TH : List Th, [.blk pG 28 #[.int .i64 0, .int .i64 0, .int .i64 1000, .int .i64 (W : Nat), .int .i64 (H : Nat)], .blk pX 26 #[.int .u8 (wd : Nat), .int .u8 (hg : Nat), .slice A nA cA, .int .u8 (xb : Nat), .int .u8 (yb : Nat), .slice D nD cD, .int .u16 (sec : Nat)]] = TH := ⟨_, rfl⟩
  have hTG : .blk pG 28 #[.int .i64 0, .int .i64 0, .int .i64 1000, .int .i64 (W : Nat), .int .i64 (H : Nat)] ∈ TH := by rw [← hTH]; exact List.mem_cons_self
  have hTX : .blk pX 26 #[.int .u8 (wd : Nat), .int .u8 (hg : Nat), .slice A nA cA, .int .u8 (xb : Nat), .int .u8 (yb : Nat), .slice D nD cD, .int .u16 (sec : Nat)] ∈ TH := by rw [← hTH]; exact List.mem_cons_of_mem _ List.mem_cons_self
  have hm5 := Bk.joined HM.out hm4
  rw [hTH] at hm5
  have HS := hide (show ClL W H (mayB l0 5) (inB l0 5) (mayB l1 5) (inB l1 5) w p mb TH 0 w4 from hm5)
  have HTG := hide hTG
  have HTX := hide hTX
  clear hTG hTX
  clear HM hm4 hm5 hTH g0 g1 g2 g3 g4 ltg bg
  go_wp2_with fail
  go_loopw [7] (fun u wr => ∃ k : Nat, k ≤ 2 ∧ u = .int .i64 (k : Nat) ∧ Hid (ClL W H (mayB l0 5) (inB l0 5) (mayB l1 5) (inB l1 5) w p mb TH k wr)) (fun u _ => 2 - (intOf u).toNat)
  case atStart => exact ⟨0, Nat.zero_le _, rfl, HS⟩
  case round =>
    clear HS
    obtain ⟨k, hk2, rfl, HS⟩ := hrel
    obtain rfl | rfl | rfl : k = 0 ∨ k = 1 ∨ k = 2 := by omega
    · have HM := hide (show Mem w ((⟨0, 0, 1000, W, H, 5, 2, -1, p, mb, 0, .slice none 0 0, .slice none 0 0, fun _ => 0, [], [], fun _ => none⟩ : Bk).ts w.heap.size TH) wr from HS.out)
      clear HS
      have bX : Blk wr pX 26 #[.int .u8 (wd : Nat), .int .u8 (hg : Nat), .slice A nA cA, .int .u8 (xb : Nat), .int .u8 (yb : Nat), .slice D nD cD, .int .u16 (sec : Nat)] := HM.out.all (.blk pX 26 #[.int .u8 (wd : Nat), .int .u8 (hg : Nat), .slice A nA cA, .int .u8 (xb : Nat), .int .u8 (yb : Nat), .slice D nD cD, .int .u16 (sec : Nat)]) (Bk.mem HTX.out)
      have a0 := bX.c 0 rfl
      have a1 := bX.c 1 rfl
      have a2 := bX.c 2 rfl
      have a3 := bX.c 3 rfl
      have a4 := bX.c 4 rfl
      have a5 := bX.c 5 rfl
      have a6 := bX.c 6 rfl
      have lta := bX.lt
      go_wp2_with fail
      refine wp_region_cutA 8 #[true, true, true, true, true, true, true, true, false, false, false, false, false, false] (by kernel_rfl) (by simp only [List.take_succ_cons, List.take_zero]; exact rfl) (by kernel_rfl) ?_
      apply any_region_J (w0 := wr) [[], [], [], [], [], [], [], []] [true, true, true, true, true, true, true, false] [⟨7, none, [], []⟩] (fun ixq y => match ixq with | 7 => .agg #[.int .i64 0, .int .i64 0, .int .i64 1000, .int .i64 (W : Nat), .int .i64 (H : Nat), .slice (y 0).1 N (y 0).2] | _ => undef) (fun ixq x F wq => match ixq with | 7 => OwnF wq F wr.heap.size 60 2 (.slice (x 7 0).1 N (x 7 0).2) N ((flat2 l0).map (Value.int .i64)) | _ => True) (fun a x => (a).put (some 47) (.agg #[.int .i64 0, .int .i64 0, .int .i64 1000, .int .i64 (W : Nat), .int .i64 (H : Nat), .slice ((x 7) 0).1 N ((x 7) 0).2])) (by kernel_rfl) (fun x => putH_step (some 47) (.agg #[.int .i64 0, .int .i64 0, .int .i64 1000, .int .i64 (W : Nat), .int .i64 (H : Nat), .slice ((x 7) 0).1 N ((x 7) 0).2]) rfl rfl <| putH_end) [43] (by kernel_rfl)
      · intro x D hD
        have hne := hD.some
        have k0 := liftB hD a0 (by first | assumption | omega)
        have k1 := liftB hD a1 (by first | assumption | omega)
        have k2 := liftB hD a2 (by first | assumption | omega)
        have k3 := liftB hD a3 (by first | assumption | omega)
        have k4 := liftB hD a4 (by first | assumption | omega)
        have k5 := liftB hD a5 (by first | assumption | omega)
        have k6 := liftB hD a6 (by first | assumption | omega)
        simp only [takeOps, Act.put, List.setIfInBounds_toArray, List.set_cons_succ, List.set_cons_zero]
        repeat (go_big_quiet_step ((go_at_call 7; with_reducible exact calls_later hD _ (HSC.out _))))
        exact wpQuiet_nil rfl
      · intro d hd x x'
        simp only [List.mem_cons, List.not_mem_nil, or_false] at hd
        rcases hd with rfl
        all_goals rfl
      · refine ⟨?_, trivial⟩
        · refine obl_callL rfl (fun _ => by kernel_rfl) 9 (fun x => #[.agg #[.int .u8 (wd : Nat), .int .u8 (hg : Nat), .slice A nA cA, .int .u8 (xb : Nat), .int .u8 (yb : Nat), .slice D nD cD, .int .u16 (sec : Nat)], .int .i64 0]) (fun x w => by kernel_rfl) ?_
          intro x w F hL hN
          refine (HMP0.out w (onward HM.out.below hL)).mono ?_
          rintro e w' ⟨A9, c9, rfl, hm9⟩
          have hown := hm9.row_ 0 rfl
          exact ⟨fun _ => (A9, c9), rfl, hm9.below, own_mono hown hL.size, fun g hg => hown.lt g hg⟩
      · refine ⟨?_, trivial⟩
        · refine ⟨fun x F wq wq' h hs hk => ?_, fun x x' F wq hx h => ?_⟩
          · have h2 : OwnF wq F wr.heap.size 60 2 (.slice (x 7 0).1 N (x 7 0).2) N ((flat2 l0).map (Value.int .i64)) := h
            exact h2.stab hk
          · have h2 : OwnF wq F wr.heap.size 60 2 (.slice (x 7 0).1 N (x 7 0).2) N ((flat2 l0).map (Value.int .i64)) := h
            rw [hx 7 (by simp)] at h2
            exact h2
      intro xx w5 F hL hlv1 hap1
      clear hap1
      obtain ⟨fct7, -⟩ := hlv1
      replace fct7 : OwnF w5 (F 7) wr.heap.size 60 2 (.slice (xx 7 0).1 N (xx 7 0).2) N ((flat2 l0).map (Value.int .i64)) := fct7 rfl
      refine ⟨rfl, ?_⟩
      intro fq
      generalize (xx 7 0).1 = A9 at *
      generalize (xx 7 0).2 = c9 at *
      have HM1 := hide (Bk.row HM.out hL fct7.1)
      clear fct7 HM bX a0 a1 a2 a3 a4 a5 a6 lta
      have HM := HM1
      clear HM1
      refine wpAny_of_anyR (S := fun _ => False) (E := fun j => !([8] : List Nat).contains j) _ _ _ _ ?_
      refine anyR_callX (f := 5 + fq) 8 #[true, true, true, true, true, true, true, true, true, false, false, false, false, false] (by kernel_rfl) (by kernel_rfl) (by simp only [List.length_cons, List.length_nil]; omega) rfl rfl rfl 13 #[.pointer (some ⟨p, 0, none⟩), .int .i64 0, .agg #[.int .i64 0, .int .i64 0, .int .i64 1000, .int .i64 (W : Nat), .int .i64 (H : Nat), .slice A9 N c9]] (fun _ => by kernel_rfl) rfl (fun wXc hlX => ?_)
      refine (Add_zero ⟨0, 0, 1000, W, H, 5, 2, -1, p, mb, 0, .slice none 0 0, .slice none 0 0, fun _ => 0, [], [], fun _ => none⟩ w.heap.size N c9 A9 0 l0 w wXc (.row w.heap.size 60 2 (.slice A9 N c9) N ((flat2 l0).map (Value.int .i64)) :: TH) (Nat.le_refl _) rfl rfl (fun _ => rfl) rfl hW hH hW8 hH8 HLV0.out ⟨by show (1 : Int) ≤ 5; decide, by show (5 : Int) ≤ 1073741824; decide⟩ (by decide) (by show (-1 : Int) < 0; decide) HN0.out HNN.out.symm HFE0.out List.mem_cons_self (HM.out.later hlX)).mono ?_
      rintro e w7 ⟨rfl, mv, tv, T', of, c, s, hok, hft, hc, hm⟩
      have HOK := hide hok
      have HFT := hide hft
      have HCC := hide hc
      have HMM := hide hm
      clear hok hft hc hm
      clear HM hlX hL
      refine ⟨_, rfl, ?_⟩
      simp only [Act.put, List.setIfInBounds_toArray, List.set_cons_succ, List.set_cons_zero]
      apply anyR_peelX (fuel := fq) 8 [false, false, false, false, false, false, false, false, false, true, true, true, true, true] #[true, true, true, true, true, true, true, true, true, true, true, true, true, true] (fun j hj => by simp [hj]) (by kernel_rfl) rfl (fun k hk => False.elim hk)
      · intro D hD
        have hne := hD.some
        simp only [takeOps]
        repeat (go_big_quiet_step (fail))
        exact wpQuiet_nil rfl
      refine anyR_done (by kernel_rfl) (fun wXd hdX => ?_)
      have HS := hide (show ClL W H (mayB l0 5) (inB l0 5) (mayB l1 5) (inB l1 5) w p mb TH 1 wXd from ⟨mv, tv, fun _ => 0, T', of, c, s, _, HOK.out, HFT.out, HCC.out, fun t ht => List.mem_append_left _ ht, fun t ht => List.mem_append_right _ (List.mem_cons_of_mem _ ht), HMM.out.later hdX⟩)
      clear HOK HFT HCC HMM hdX
      go_wp2_with fail
      go_roundw
      case rel => exact ⟨1, by omega, by go_num, HS⟩
      case measure => simp [intOf] <;> omega
    · obtain ⟨mv, tv, kz, T', of, c, s0, R, hok0, hft0, hc0, hsR, hTR, hM⟩ := HS.out
      clear HS
      have hg0 : .blk s0.g 3 (cellsF s0.f N) ∈ R := hsR _ (by unfold Spr.ts; rw [HNN.out]; simp)
      have HM := hide hM
      have HOK0 := hide hok0
      have HFT0 := hide hft0
      have HC0 := hide hc0
      have HSR := hide hsR
      have HTR := hide hTR
      have HG0 := hide hg0
      clear hM hok0 hft0 hc0 hsR hTR hg0
      have bX : Blk wr pX 26 #[.int .u8 (wd : Nat), .int .u8 (hg : Nat), .slice A nA cA, .int .u8 (xb : Nat), .int .u8 (yb : Nat), .slice D nD cD, .int .u16 (sec : Nat)] := HM.out.all (.blk pX 26 #[.int .u8 (wd : Nat), .int .u8 (hg : Nat), .slice A nA cA, .int .u8 (xb : Nat), .int .u8 (yb : Nat), .slice D nD cD, .int .u16 (sec : Nat)]) (Bk.mem (HTR.out _ HTX.out))
      have a0 := bX.c 0 rfl
      have a1 := bX.c 1 rfl
      have a2 := bX.c 2 rfl
      have a3 := bX.c 3 rfl
      have a4 := bX.c 4 rfl
      have a5 := bX.c 5 rfl
      have a6 := bX.c 6 rfl
      have lta := bX.lt
      go_wp2_with fail
      refine wp_region_cutA 8 #[true, true, true, true, true, true, true, true, false, false, false, false, false, false] (by kernel_rfl) (by simp only [List.take_succ_cons, List.take_zero]; exact rfl) (by kernel_rfl) ?_
      apply any_region_J (w0 := wr) [[], [], [], [], [], [], [], []] [true, true, true, true, true, true, true, false] [⟨7, none, [], []⟩] (fun ixq y => match ixq with | 7 => .agg #[.int .i64 0, .int .i64 0, .int .i64 1000, .int .i64 (W : Nat), .int .i64 (H : Nat), .slice (y 0).1 N (y 0).2] | _ => undef) (fun ixq x F wq => match ixq with | 7 => OwnF wq F wr.heap.size 60 2 (.slice (x 7 0).1 N (x 7 0).2) N ((flat2 l1).map (Value.int .i64)) | _ => True) (fun a x => (a).put (some 47) (.agg #[.int .i64 0, .int .i64 0, .int .i64 1000, .int .i64 (W : Nat), .int .i64 (H : Nat), .slice ((x 7) 0).1 N ((x 7) 0).2])) (by kernel_rfl) (fun x => putH_step (some 47) (.agg #[.int .i64 0, .int .i64 0, .int .i64 1000, .int .i64 (W : Nat), .int .i64 (H : Nat), .slice ((x 7) 0).1 N ((x 7) 0).2]) rfl rfl <| putH_end) [43] (by kernel_rfl)
      · intro x D hD
        have hne := hD.some
        have k0 := liftB hD a0 (by first | assumption | omega)
        have k1 := liftB hD a1 (by first | assumption | omega)
        have k2 := liftB hD a2 (by first | assumption | omega)
        have k3 := liftB hD a3 (by first | assumption | omega)
        have k4 := liftB hD a4 (by first | assumption | omega)
        have k5 := liftB hD a5 (by first | assumption | omega)
        have k6 := liftB hD a6 (by first | assumption | omega)
        simp only [takeOps, Act.put, List.setIfInBounds_toArray, List.set_cons_succ, List.set_cons_zero]
        repeat (go_big_quiet_step ((go_at_call 7; with_reducible exact calls_later hD _ (HSC.out _))))
        exact wpQuiet_nil rfl
      · intro d hd x x'
        simp only [List.mem_cons, List.not_mem_nil, or_false] at hd
        rcases hd with rfl
        all_goals rfl
      · refine ⟨?_, trivial⟩
        · refine obl_callL rfl (fun _ => by kernel_rfl) 9 (fun x => #[.agg #[.int .u8 (wd : Nat), .int .u8 (hg : Nat), .slice A nA cA, .int .u8 (xb : Nat), .int .u8 (yb : Nat), .slice D nD cD, .int .u16 (sec : Nat)], .int .i64 1]) (fun x w => by kernel_rfl) ?_
          intro x w F hL hN
          refine (HMP1.out w (onward HM.out.below hL)).mono ?_
          rintro e w' ⟨A9, c9, rfl, hm9⟩
          have hown := hm9.row_ 0 rfl
          exact ⟨fun _ => (A9, c9), rfl, hm9.below, own_mono hown hL.size, fun g hg => hown.lt g hg⟩
      · refine ⟨?_, trivial⟩
        · refine ⟨fun x F wq wq' h hs hk => ?_, fun x x' F wq hx h => ?_⟩
          · have h2 : OwnF wq F wr.heap.size 60 2 (.slice (x 7 0).1 N (x 7 0).2) N ((flat2 l1).map (Value.int .i64)) := h
            exact h2.stab hk
          · have h2 : OwnF wq F wr.heap.size 60 2 (.slice (x 7 0).1 N (x 7 0).2) N ((flat2 l1).map (Value.int .i64)) := h
            rw [hx 7 (by simp)] at h2
            exact h2
      intro xx w5 F hL hlv2 hap2
      clear hap2
      obtain ⟨fct7, -⟩ := hlv2
      replace fct7 : OwnF w5 (F 7) wr.heap.size 60 2 (.slice (xx 7 0).1 N (xx 7 0).2) N ((flat2 l1).map (Value.int .i64)) := fct7 rfl
      refine ⟨rfl, ?_⟩
      intro fq
      generalize (xx 7 0).1 = A9 at *
      generalize (xx 7 0).2 = c9 at *
      have HM1 := hide (Bk.row HM.out hL fct7.1)
      clear fct7 HM bX a0 a1 a2 a3 a4 a5 a6 lta
      have HM := HM1
      clear HM1
      refine wpAny_of_anyR (S := fun _ => False) (E := fun j => !([8] : List Nat).contains j) _ _ _ _ ?_
      refine anyR_callX (f := 5 + fq) 8 #[true, true, true, true, true, true, true, true, true, false, false, false, false, false] (by kernel_rfl) (by kernel_rfl) (by simp only [List.length_cons, List.length_nil]; omega) rfl rfl rfl 13 #[.pointer (some ⟨p, 0, none⟩), .int .i64 T, .agg #[.int .i64 0, .int .i64 0, .int .i64 1000, .int .i64 (W : Nat), .int .i64 (H : Nat), .slice A9 N c9]] (fun _ => by kernel_rfl) rfl (fun wXc hlX => ?_)
      refine (Add_one ⟨0, 0, 1000, W, H, 5, 2, 0, p, mb, c, mv, tv, kz, [s0], T', of⟩ s0 (mayB l0 5) (inB l0 5) 2 w.heap.size N c9 A9 T l1 w wXc (.row w.heap.size 60 2 (.slice A9 N c9) N ((flat2 l1).map (Value.int .i64)) :: R) (Nat.le_refl _) rfl HOK0.out HFT0.out HC0.out rfl (by omega) (List.mem_cons_of_mem _ HG0.out) hW hH hW8 hH8 HLV1.out ⟨by show (1 : Int) ≤ 5; decide, by show (5 : Int) ≤ 1073741824; decide⟩ (by omega) (by show (0 : Int) < T; omega) HN1.out HNN.out.symm HFE1.out List.mem_cons_self (HM.out.later hlX)).mono ?_
      rintro e w7 ⟨⟨ve, rfl⟩, mv2, tv2, kz2, T2, of2, c2, s1, E, L, R2, hok1, hE, hNr, hKA, hTb, hs1R, hRR, hm⟩
      have HOK1 := hide hok1
      have HE := hide hE
      have HNR := hide hNr
      have HKA := hide hKA
      have HTB := hide hTb
      have HS1R := hide hs1R
      have HRR := hide hRR
      have HMM := hide hm
      clear hok1 hE hNr hKA hTb hs1R hRR hm
      clear HM hlX hL
      refine ⟨_, rfl, ?_⟩
      simp only [Act.put, List.setIfInBounds_toArray, List.set_cons_succ, List.set_cons_zero]
      apply anyR_peelX (fuel := fq) 8 [false, false, false, false, false, false, false, false, false, true, true, true, true, true] #[true, true, true, true, true, true, true, true, true, true, true, true, true, true] (fun j hj => by simp [hj]) (by kernel_rfl) rfl (fun k hk => False.elim hk)
      · intro D hD
        have hne := hD.some
        simp only [takeOps]
        repeat (go_big_quiet_step (fail))
        exact wpQuiet_nil rfl
      refine anyR_done (by kernel_rfl) (fun wXd hdX => ?_)
      have HS := hide (show ClL W H (mayB l0 5) (inB l0 5) (mayB l1 5) (inB l1 5) w p mb TH 2 wXd from ⟨_, s0, s1, E, L, R2, rfl, rfl, rfl, rfl, rfl, HOK0.out, HOK1.out, HE.out, HNR.out, HKA.out, HTB.out, fun t ht => HRR.out t (List.mem_cons_of_mem _ (HSR.out t ht)), HS1R.out, fun t ht => HRR.out t (List.mem_cons_of_mem _ (HTR.out t ht)), HMM.out.later hdX⟩)
      clear HOK1 HE HNR HKA HTB HS1R HRR HMM hdX HOK0 HFT0 HC0 HSR HTR HG0
      go_wp2_with fail
      go_roundw
      case rel => exact ⟨2, by omega, by go_num, HS⟩
      case measure => simp [intOf] <;> omega
    · obtain ⟨B, s0, s1, E, L, R, hBp, hBS, hBW, hBH, hBr, hk0, hk1, hE, hNr, hKA, hTb, hR0, hR1, hRT, hM⟩ := HS.out
      clear HS
      have bX : Blk wr pX 26 #[.int .u8 (wd : Nat), .int .u8 (hg : Nat), .slice A nA cA, .int .u8 (xb : Nat), .int .u8 (yb : Nat), .slice D nD cD, .int .u16 (sec : Nat)] := hM.all (.blk pX 26 #[.int .u8 (wd : Nat), .int .u8 (hg : Nat), .slice A nA cA, .int .u8 (xb : Nat), .int .u8 (yb : Nat), .slice D nD cD, .int .u16 (sec : Nat)]) (Bk.mem (hRT _ HTX.out))
      have HM := hide hM
      have HBP := hide hBp
      have HBS := hide hBS
      have HBW := hide hBW
      have HBH := hide hBH
      have HBR := hide hBr
      have HK0 := hide hk0
      have HK1 := hide hk1
      have HE := hide hE
      have HNR := hide hNr
      have HKA := hide hKA
      have HTB := hide hTb
      have HR0 := hide hR0
      have HR1 := hide hR1
      have HRT := hide hRT
      clear hM hBp hBS hBW hBH hBr hk0 hk1 hE hNr hKA hTb hR0 hR1 hRT
      have a0 := bX.c 0 rfl
      have a1 := bX.c 1 rfl
      have a2 := bX.c 2 rfl
      have a3 := bX.c 3 rfl
      have a4 := bX.c 4 rfl
      have a5 := bX.c 5 rfl
      have a6 := bX.c 6 rfl
      have lta := bX.lt
      go_wp2_with fail
      refine (HMP1.out wr HM.out.below).mono ?_
      rintro e w5 ⟨A9, c9, rfl, hm9⟩
      have HM1 := hide (Bk.row HM.out hm9.below (hm9.row_ 0 rfl))
      clear HM hm9 a0 a1 a2 a3 a4 a5 a6 lta bX
      have hl9 : Ints w5 w5.heap.size .i64 A9 (flat2 l1) := Ints.own (show w5.ownsRow w.heap.size 60 2 (.slice A9 N c9) N ((flat2 l1).map (Value.int .i64)) from HM1.out.all (.row w.heap.size 60 2 (.slice A9 N c9) N ((flat2 l1).map (Value.int .i64))) (Bk.mem List.mem_cons_self)) rfl (Nat.le_refl _)
      have har := Areas_ok 0 0 1000 W H N c9 A9 5 l1 w5 hW hH hW8 hH8 HLV1.out (by omega) HN1.out HNN.out.symm HFE1.out hl9
      have HAR := hide har
      clear har
      clear hl9
      go_wp2_with fail
      refine HAR.out.mono ?_
      rintro e w6 ⟨s, rfl, hms, hok⟩
      have HM2 := hide (Spr.rise HM1.out hms)
      clear HM1 hms HAR
      have htr := Tracks_ok B w.heap.size w w6 (.row w.heap.size 60 2 (.slice A9 N c9) N ((flat2 l1).map (Value.int .i64)) :: R) (HM2.out.sub (List.sublist_append_right _ _)) HTB.out.1 HTB.out.2
      rw [HBP.out] at htr
      have HTRK := hide htr
      have HOK := hide hok
      clear htr hok
      go_wp2_with fail
      refine HTRK.out.mono ?_
      rintro e w7 ⟨vt, xs, rfl, hb7, hrt, hfr⟩
      have HM := hide (HM2.out.later hb7)
      obtain ⟨At, ct, rfl⟩ := own_shape2 hrt
      have hrt2 := own_mono hrt HM2.out.size
      clear HM2 hb7 HTRK hrt
      have HRT2 := hide hrt2
      have HFR := hide hfr
      clear hrt2 hfr
      have hK64 : s.K ≤ 64 := by have := HOK.out.le; rw [HNN.out] at this; omega
      have hd64 : decide ((64 : Int) < s.K) = false := decide_eq_false (by omega)
      have bX : Blk w7 pX 26 #[.int .u8 (wd : Nat), .int .u8 (hg : Nat), .slice A nA cA, .int .u8 (xb : Nat), .int .u8 (yb : Nat), .slice D nD cD, .int .u16 (sec : Nat)] := HM.out.all (.blk pX 26 #[.int .u8 (wd : Nat), .int .u8 (hg : Nat), .slice A nA cA, .int .u8 (xb : Nat), .int .u8 (yb : Nat), .slice D nD cD, .int .u16 (sec : Nat)]) (List.mem_append_right _ (Bk.mem (List.mem_cons_of_mem _ (HRT.out _ HTX.out))))
      have a3 := bX.c 3 rfl
      have a4 := bX.c 4 rfl
      have lta := bX.lt
      go_upto_region 15 with fail
      go_quiet (fail)
      have hL9 : Below w7.heap.size w7 (w7.drewN nq) := below_drewN (Below.refl _ _) nq
      obtain ⟨w8, hw8⟩ : ∃ q, w7.drewN nq = q := ⟨_, rfl⟩
      rw [hw8] at hL9
      simp only [hw8]
      have hrt8 := own_belowT HRT2.out hL9
      replace HM := hide (HM.out.later hL9)
      clear hw8 hL9 HRT2 a3 a4 lta bX
      have e1 := HMX.out.symm
      have e2 := HMY.out.symm
      simp only [e1, e2]
      have hmx : -2 ≤ M.mx ∧ M.mx ≤ 2 := by omega
      have hmy : -2 ≤ M.my ∧ M.my ≤ 2 := by omega
      clear e1 e2
      have bX : Blk w8 pX 26 #[.int .u8 (wd : Nat), .int .u8 (hg : Nat), .slice A nA cA, .int .u8 (xb : Nat), .int .u8 (yb : Nat), .slice D nD cD, .int .u16 (sec : Nat)] := HM.out.all (.blk pX 26 #[.int .u8 (wd : Nat), .int .u8 (hg : Nat), .slice A nA cA, .int .u8 (xb : Nat), .int .u8 (yb : Nat), .slice D nD cD, .int .u16 (sec : Nat)]) (List.mem_append_right _ (Bk.mem (List.mem_cons_of_mem _ (HRT.out _ HTX.out))))
      have bG : Blk w8 pG 28 #[.int .i64 0, .int .i64 0, .int .i64 1000, .int .i64 (W : Nat), .int .i64 (H : Nat)] := HM.out.all (.blk pG 28 #[.int .i64 0, .int .i64 0, .int .i64 1000, .int .i64 (W : Nat), .int .i64 (H : Nat)]) (List.mem_append_right _ (Bk.mem (List.mem_cons_of_mem _ (HRT.out _ HTG.out))))
      have hsp : SprAt w8 s w.heap.size N := fun t ht => HM.out.all t (List.mem_append_left _ ht)
      have hsp0 : SprAt w8 s0 w.heap.size (W * H) := fun t ht => HM.out.all t (List.mem_append_right _ (Bk.mem (List.mem_cons_of_mem _ (HR0.out t ht))))
      have hsp1 : SprAt w8 s1 w.heap.size (W * H) := fun t ht => HM.out.all t (List.mem_append_right _ (Bk.mem (List.mem_cons_of_mem _ (HR1.out t ht))))
      have hMB : Mem w (B.ts w.heap.size (.row w.heap.size 60 2 (.slice A9 N c9) N ((flat2 l1).map (Value.int .i64)) :: R)) w8 := HM.out.sub (List.sublist_append_right _ _)
      have hak : ∀ i, ∃ q : Nat × Int, i < s.K → i < s1.K ∧ ∃ t, B.of (1, i) = some q.1 ∧ B.T[q.1]? = some t ∧ t.fr = q.2 ∧ (q.2 = 1 ∨ (q.2 = 0 ∧ t.al = [q.1, i] ∧ q.1 < s0.K ∧ (M.mx, M.my) ∈ mvL (goodM W H s0 s1 q.1 i) 25)) := fun i => by
        by_cases hi : i < s.K
        · have hk0 := HK0.out
          have hk1 := HK1.out
          have hks := HOK.out
          have hNr := HNR.out
          rw [← HMW.out, ← HMH.out] at hk0 hk1 hks hNr
          obtain ⟨k, t, h1, h2, h3, h4⟩ := area_known hmx hmy HFO0.out HFO1.out hk0 hk1 hks HE.out hNr HKA.out hi
          rw [HMW.out, HMH.out] at h4
          refine ⟨(k, t.fr), fun _ => ⟨h1, t, h2, h3, rfl, h4⟩⟩
        · exact ⟨(0, 0), fun h => absurd h hi⟩
      obtain ⟨kf, hkf⟩ := Classical.axiomOfChoice hak
      have hof : ∀ V, Below w8.heap.size w8 V → ∀ i, i < s.K → Calls Try.prog 16 #[.pointer (some ⟨p, 0, none⟩), .int .i64 1, .int .i64 (i : Nat)] V fun e w' => e = .returned (.tuple #[.int .i64 ((kf i).1 : Nat), .int .i64 0]) ∧ Below V.heap.size V w' := fun V hB i hi => by
        obtain ⟨h1, t, h2, -⟩ := hkf i hi
        have := Of_ok B w.heap.size 1 i (kf i).1 w V _ (hMB.later hB) (by omega) (by omega) h2
        rw [HBP.out] at this
        exact this
      have hst : ∀ V, Below w8.heap.size w8 V → ∀ i, i < s.K → (kf i).2 = 0 → Calls Try.prog 17 #[.pointer (some ⟨p, 0, none⟩), .int .i64 ((kf i).1 : Nat)] V (StepsPost (mvL (goodM W H s0 s1 (kf i).1 i) 25) V) := fun V hB i hi h0 => by
        obtain ⟨h1, t, h2, h3, h4, h5⟩ := hkf i hi
        rcases h5 with h5 | ⟨-, h5, h6, -⟩
        · omega
        have hk0 := HK0.out
        have hk1 := HK1.out
        rw [← HBW.out, ← HBH.out] at hk0 hk1
        have := Steps_one B s0 s1 (mayB l0 5) (inB l0 5) (mayB l1 5) (inB l1 5) w.heap.size (kf i).1 (kf i).1 i t w V _ (hMB.later hB) HBS.out HBR.out h3 (h4.trans h0) h5 (by rw [HBW.out]; exact hW) (by rw [HBH.out]; exact hH) (by rw [HBW.out]; exact hW8) (by rw [HBH.out]; exact hH8) hk0 hk1 (by rw [HBW.out, HBH.out]; exact hsp0.later hB) (by rw [HBW.out, HBH.out]; exact hsp1.later hB) h6 h1
        rw [HBP.out, HBW.out, HBH.out] at this
        exact this
      have hfrs : ∀ i, i < s.K → (kf i).1 < B.T.length ∧ xs[(kf i).1 * 6 + 1]? = some (.int .i64 (kf i).2) ∧ ((kf i).2 = 0 ∨ (kf i).2 = 1) := fun i hi => by
        obtain ⟨h1, t, h2, h3, h4, h5⟩ := hkf i hi
        have hlt := (List.getElem?_eq_some_iff.1 h3).1
        refine ⟨hlt, ?_, ?_⟩
        · rw [← h4]; exact HFR.out.2 _ _ hlt h3
        · rcases h5 with h5 | h5
          · exact .inr h5
          · exact .inl h5.1
      have hmls : ∀ i, i < s.K → (kf i).2 = 0 → (M.mx, M.my) ∈ mvL (goodM W H s0 s1 (kf i).1 i) 25 ∧ (∀ m ∈ mvL (goodM W H s0 s1 (kf i).1 i) 25, -2 ≤ m.1 ∧ m.1 ≤ 2 ∧ -2 ≤ m.2 ∧ m.2 ≤ 2) ∧ (mvL (goodM W H s0 s1 (kf i).1 i) 25).length ≤ 25 := fun i hi h0 => by
        obtain ⟨h1, t, h2, h3, h4, h5⟩ := hkf i hi
        rcases h5 with h5 | ⟨-, h5, h6, h7⟩
        · omega
        · exact ⟨h7, fun m hm => mvL_mem hm, mvL_len⟩
      have HKF := hide hkf
      have HOF := hide hof
      have HST := hide hst
      have HFRS := hide hfrs
      have HMLS := hide hmls
      have HBX := hide bX
      have HBG := hide bG
      have HSP := hide hsp
      have HRT8 := hide hrt8
      clear hkf hof hst hfrs hmls bX bG hsp hrt8
      clear hak hsp0 hsp1 hMB
      go_wp2_with fail
      refine cl1 wd hg nA cA xb yb nD cD sec W H N pX pG p w.heap.size B.T.length ct A D At M.mx M.my T s (mayB l1 5) (inB l1 5) (fun i => (kf i).1) (fun i => (kf i).2) (fun i => mvL (goodM W H s0 s1 (kf i).1 i) 25) xs hsec HTT.out hW hH hW8 hH8 HNN.out HLV1.out HOK.out hmx hmy HFRS.out HMLS.out HBX.out HBG.out HSP.out HRT8.out HOF.out HST.out ?_
      intro kv2 kv3 kv16 kv17 kv18 kv19 kv20 kv21 kv22 kv23 kv24 kv25 kv78 kv79 kv80 kv81 kv82 kv83 kv84 kv85 kv86 kv87 kv88 kv89 kv90 kv91 kv92 kv93 kv94 kv95 kv96 kv97 kv98 kv99 kv100 kv101 kv102 kv103 kv104 kv105 kv106 kv107 kv108 kv109 kv110 kv111 kv112 kv113 kv114 kv115 kv116 kv117 kv118 kv119 kv120 kv121 kv122 kv123 kv124 kv125 kv126 kv127 kv128 kv129 kv130 kv131 kv132 kv133 kv134 kv135 kv136 kv137 kv138 kv139 kv140 kv141 kv142 kv143 kv144 kv145 kv146 kv147 kv148 kv149 kv150 kv151 kv152 kv153 kv154 kv155 kv156 kv157 kv158 kv159 kv160 kv161 kv162 kv163 kv164 kv165 kv166 kv167 kv168 kv169 kv170 kv171 kv172 kv173 kv174 kv175 kv176 kv177 kv178 kv179 kv180 kv181
      intro rv w9 hC
      have HC := hide hC
      clear hC
      go_wp2
      show PP (.returned (.tuple #[rv, .bool true])) w9
      rw [← HPP.out]
      obtain ⟨L2, hL, hLg, hLa, hMC⟩ := HC.out
      exact ⟨rv, L2, s, rfl, by rw [HMW.out, HMH.out]; exact HOK.out, hL, hLg, fun c hc => ⟨own_mono (hLa c hc).1 HM.out.size, own_mono (hLa c hc).2 HM.out.size⟩, own_mono (hMC.row_ 0 rfl) HM.out.size, HM.out.below.trans (hMC.below.mono HM.out.size)⟩
end Go.Proofs.Ytidbjidcjmbnlaa
end
section
namespace Go.Proofs.Ytidbjidcjmbnlaa
open Go Go.RowKit

section
variable {M : Mvd} {T : Int} {may1 in1 : Nat → Bool} {s : Spr} {L : List Cld}
theorem cl_come {c : Cld} {i : Nat} {N : Nat} (hT : 1 ≤ T) (h : ClG N T M.mx M.my s i c) : comeB (comeOf c T) (M.mx, M.my) := by
  obtain ⟨-, -, -, ul, uh, vl, vh, hu, hv, e1, e2, e3, e4⟩ := h
  unfold comeB comeOf
  rw [e1, e2, e3, e4]
  exact ⟨come_lo hT hu.2.1 rfl, come_hi hT hu.2.2.1 rfl, come_lo hT hv.2.1 rfl, come_hi hT hv.2.2.1 rfl⟩
theorem pos_wh {W H p : Nat} (h : p < W * H) : 0 < W := Nat.pos_of_ne_zero fun e => by rw [e, Nat.zero_mul] at h; omega
/-- What is true can be. -/
theorem top_may {N p : Nat} (hN : M.W * M.H = N) (hT : 1 ≤ T) (F1 : FieldOk M 1 may1 in1) (ho : s.Ok M.W M.H may1 in1) (hL : L.length = s.K) (hG : ClsG N T M.mx M.my s L) (hp : p < N) (ht : truP M 2 p = true) : stA M.W M.H T L p ≠ 0 := by
  rw [← hN] at hp
  obtain ⟨i, q, hi, hq, hqi, hs⟩ := from_area F1 ho.areas hp ht
  rw [ho.plen] at hi
  obtain ⟨c, hc⟩ : ∃ c, L[i]? = some c := ⟨_, List.getElem?_eq_getElem (by omega)⟩
  have hcg := hG i c hc
  have h1 := state_may (sure := inL c.sl) (may := inL c.ml) hq (hs _ (cl_come hT hcg)) (by
    unfold inL
    rw [hcg.2.1]
    exact decide_eq_true hqi)
  have h2 := stA_ge (W := M.W) (H := M.H) (t := T) (p := p) (List.mem_of_getElem? hc)
  unfold stC at h2
  omega
/-- What is sure is true. -/
theorem top_sure {N p : Nat} (hN : M.W * M.H = N) (hT : 1 ≤ T) (F1 : FieldOk M 1 may1 in1) (ho : s.Ok M.W M.H may1 in1) (hL : L.length = s.K) (hG : ClsG N T M.mx M.my s L) (hp : p < N) (h2 : stA M.W M.H T L p = 2) : truP M 2 p = true := by
  rw [← hN] at hp
  obtain ⟨c, hc, he⟩ := stA_is (W := M.W) (H := M.H) (t := T) (L := L) (p := p) (by omega)
  obtain ⟨i, hi⟩ := List.mem_iff_getElem?.1 hc
  have hcg := hG i c hi
  have hiK : i < s.K := by have := (List.getElem?_eq_some_iff.1 hi).1; omega
  rw [h2] at he
  refine state_sure (cl_come hT hcg) hp (fun q hq hqs => ?_) (show stateN M.W M.H (comeOf c T) (inL c.sl) (inL c.ml) p = 2 from he.symm)
  obtain ⟨y, hy, hqy⟩ := hcg.2.2.1 q (of_decide_eq_true hqs)
  have hk : s.kern.getD i [] = (s.ki i).map (·.2) := by
    unfold Spr.kern
    rw [List.getD_eq_getElem?_getD, List.getElem?_map, List.getElem?_range hiK]
    rfl
  have h3 := ho.areas.kerns i (by rw [ho.plen]; exact hiK) y.2 (by rw [hk]; exact List.mem_map_of_mem hy) q hqy
  exact (F1 q hq).1 h3.2.1
end
/-- The later map contradicts nothing. -/
theorem top_held {M : Mvd} {dl : List Nat} {b N : Nat} {f : Nat → Nat} (h1 : ∀ p, p < N → truP M 2 p = true → f p ≠ 0) (h2 : ∀ p, p < N → f p = 2 → truP M 2 p = true) (h3 : ∀ p, f p ≤ 2) :
    ∀ (p x : Nat) (y : Int × Int), ((List.range N).map f)[p]? = some x → (knownL M dl 2 b N)[p]? = some y → x ≤ 2 ∧ (x = 2 → 5 ≤ y.2) ∧ (x = 0 → y.1 < 5) := fun p x y hx hy => by
  have hp : p < N := by
    have := (List.getElem?_eq_some_iff.1 hx).1
    simpa using this
  rw [List.getElem?_map, List.getElem?_range hp] at hx
  have e : f p = x := Option.some.inj hx
  subst e
  rw [knownL_get hp] at hy
  have e := Option.some.inj hy
  subst e
  refine ⟨h3 p, fun h => ?_, fun h => ?_⟩
  · rcases knownV_cases M dl 2 b p with h4 | ⟨-, h4⟩ | ⟨h5, h4⟩
    · rw [h4]; decide
    · rw [h4]; decide
    · rw [h2 p hp h] at h5; cases h5
  · rcases knownV_cases M dl 2 b p with h4 | ⟨h5, h4⟩ | ⟨-, h4⟩
    · rw [h4]; decide
    · exact absurd h (h1 p hp h5)
    · rw [h4]; decide
/-- The example: one area of two pixels. -/
theorem works_area {may inn : Nat → Bool} {s : Spr} (ho : s.Ok 6 1 may inn) (hm : ∀ p, p < 6 → may p = decide (p = 1 ∨ p = 2)) : s.K = 1 ∧ (s.pix.getD 0 []).length = 2 := by
  have hA := ho.areas
  have hl := ho.plen
  have m1 := hm 1 (by omega)
  have m2 := hm 2 (by omega)
  have p1 := hA.all 1 (by omega) (by rw [m1]; rfl)
  have p2 := hA.all 2 (by omega) (by rw [m2]; rfl)
  have h12 : s.f 1 = s.f 2 := (hA.part.closed 1 2 (by omega) p1 (by decide) (by rw [m2]; rfl)).symm
  have lab : ∀ p, p < 6 → 0 ≤ s.f p → p = 1 ∨ p = 2 := fun p hp h0 => by
    rcases hA.part.lab p (by omega) with h3 | ⟨-, -, h3⟩
    · omega
    · rw [hm p hp] at h3
      exact of_decide_eq_true h3
  have lt1 : s.f 1 < s.K := by
    rcases hA.part.lab 1 (by omega) with h3 | ⟨-, h3, -⟩
    · omega
    · rw [hl] at h3; exact h3
  have all : ∀ i, i < s.K → (i : Int) = s.f 1 := fun i hi => by
    obtain ⟨p, hp⟩ := List.exists_mem_of_ne_nil _ (hA.ne i (by omega))
    obtain ⟨h1, h2⟩ := (hA.pixs i (by omega) p).1 hp
    rcases lab p (by omega) (by omega) with rfl | rfl
    · exact h2.symm
    · rw [h12]; exact h2.symm
  have hK1 : s.K = 1 := by
    have h0 : 0 < s.K := by omega
    have e0 := all 0 h0
    apply Classical.byContradiction
    intro hne
    have e1 := all 1 (by omega)
    omega
  refine ⟨hK1, ?_⟩
  have hf1 := all 0 (by omega)
  have hmem : ∀ p, p ∈ s.pix.getD 0 [] ↔ p = 1 ∨ p = 2 := fun p => by
    rw [hA.pixs 0 (by omega) p]
    constructor
    · rintro ⟨h1, h2⟩
      exact lab p (by omega) (by omega)
    · rintro (rfl | rfl)
      · exact ⟨by omega, hf1.symm⟩
      · exact ⟨by omega, h12.symm.trans hf1.symm⟩
  have hs := hA.sort 0 (by omega)
  revert hmem hs
  generalize s.pix.getD 0 [] = l
  intro hmem hs
  match l, hmem, hs with
  | [], hmem, _ => exact absurd ((hmem 1).2 (.inl rfl)) List.not_mem_nil
  | [a], hmem, _ =>
    have e1 := (hmem 1).2 (.inl rfl)
    have e2 := (hmem 2).2 (.inr rfl)
    rw [List.mem_singleton] at e1 e2
    omega
  | [a, b], _, _ => rfl
  | a :: b :: c :: l, hmem, hs =>
    rw [List.pairwise_cons] at hs
    obtain ⟨h1, hs⟩ := hs
    rw [List.pairwise_cons] at hs
    have hab := h1 b (by simp)
    have hbc := hs.1 c (by simp)
    have ha := (hmem a).1 (by simp)
    have hb := (hmem b).1 (by simp)
    have hc := (hmem c).1 (by simp)
    omega
end Go.Proofs.Ytidbjidcjmbnlaa
end
section
namespace Go.Proofs.Ytidbjidcjmbnlaa
open Go Go.RowKit
attribute [local go_sem] Oper.semAt_some

def exM : Mvd := mvdOf 6 1 3 2 [true, true]
theorem ex_may : ∀ p, p < 6 → mayB (knownL exM [1] 1 (1 * 6 * 1) 6) 5 p = decide (p = 1 ∨ p = 2) := by decide +kernel
theorem ex_two : truP exM 2 2 = true := by decide +kernel
theorem ex_three : truP exM 2 3 = true := by decide +kernel
set_option maxHeartbeats 4000000 in
set_option maxRecDepth 100000 in
theorem movedWorks_ok (w : World) : Calls Try.prog 11 #[] w fun e w' => e = .returned (.bool true) ∧ Below w.heap.size w w' := by
  obtain ⟨PP, hPP⟩ : ∃ PP : Ending → World → Prop, (fun e w' => e = .returned (.bool true) ∧ Below w.heap.size w w') = PP := ⟨_, rfl⟩
  rw [hPP]
  have HPP := hide hPP
  clear hPP
  go_enter Try.func11, Try.ntmps11
  have HM := hide (Mem.start w)
  go_upto_region 2 with fail
  refine code_world fun W1 hW => ?_
  have HMn := Mem.to (Mem.allocAt (Mem.allocAt (Mem.allocAt HM.out w.heap.size rfl #[.bool true, .bool true] 4) (w.heap.size + 1) (by simp) #[.int .u8 1] 5) (w.heap.size + 2) (by simp) #[.int .u8 5, .int .u8 0, .slice (some ⟨w.heap.size, 0, none⟩) 2 2, .int .u8 3, .int .u8 2, .slice (some ⟨w.heap.size + 1, 0, none⟩) 1 1, .int .u16 200] 26) hW
  have LW : Later w W1 := by rw [hW]; exact ((((Below.refl _ _).alloc (Nat.le_refl _) _).alloc (by simp; try omega) _).alloc (by simp; try omega) _)
  have szW : W1.heap.size = w.heap.size + 3 := by rw [hW]; simp
  clear hW
  replace HM := hide HMn
  clear HMn LW
  clear szW
  obtain ⟨kb, hkb⟩ : ∃ q, w.heap.size = q := ⟨_, rfl⟩
  obtain ⟨kd, hkd⟩ : ∃ q, kb + 1 = q := ⟨_, rfl⟩
  obtain ⟨kx, hkx⟩ : ∃ q, kd + 1 = q := ⟨_, rfl⟩
  rw [show w.heap.size + 2 = kx by omega, show w.heap.size + 1 = kd by omega, hkb] at HM
  simp only [hkb, hkd, hkx]
  clear hkb hkd hkx
  have bB := HM.out.blk_ 2 rfl
  have bD := HM.out.blk_ 1 rfl
  have hI : Bools W1 W1.heap.size (some ⟨kb, 0, none⟩) [true, true] := fun _ => ⟨kb, 0, rfl, bB.lt, fun j x hx => by
    rw [Nat.zero_add]
    match j, hx with
    | 0, hx => rw [← Option.some.inj hx]; exact bB.c 0 rfl
    | 1, hx => rw [← Option.some.inj hx]; exact bB.c 1 rfl
    | j + 2, hx => cases hx⟩
  have hD : Ints W1 W1.heap.size .u8 (some ⟨kd, 0, none⟩) ([1].map fun x : Nat => (x : Int)) := fun _ => ⟨kd, 0, rfl, bD.lt, fun j hj => by
    have hj1 : j < 1 := hj
    obtain rfl : j = 0 := by omega
    exact bD.c 0 rfl⟩
  have hcl : Calls Try.prog 5 #[.agg #[.int .u8 5, .int .u8 0, .slice (some ⟨kb, 0, none⟩) 2 2, .int .u8 3, .int .u8 2, .slice (some ⟨kd, 0, none⟩) 1 1, .int .u16 200]] W1 (CloudsPost exM 6 300 (mayB (knownL exM [1] 1 (1 * 6 * 1) 6) 5) (inB (knownL exM [1] 1 (1 * 6 * 1) 6) 5) W1) :=
    movedClouds_any 5 0 2 2 3 2 1 1 200 6 1 6 (some ⟨kb, 0, none⟩) (some ⟨kd, 0, none⟩) 300 [true, true] [1] exM W1 (by decide) (by decide) (by decide) rfl rfl rfl rfl (by decide) (by decide) rfl rfl (by decide) rfl (by decide) hI hD (by decide)
  have hmg : ∀ V, Calls Try.prog 4 #[.agg #[.int .u8 5, .int .u8 0, .slice (some ⟨kb, 0, none⟩) 2 2, .int .u8 3, .int .u8 2, .slice (some ⟨kd, 0, none⟩) 1 1, .int .u16 200]] V fun e w' => e = .returned (.agg #[.int .i64 0, .int .i64 0, .int .i64 1000, .int .i64 6, .int .i64 1]) ∧ Below V.heap.size V w' := fun V => movedGrid_any 5 0 2 2 3 2 1 1 200 (some ⟨kb, 0, none⟩) (some ⟨kd, 0, none⟩) V (by decide) (by decide)
  have HCL := hide hcl
  have HMG := hide hmg
  clear hcl hmg
  clear hI hD bB bD
  have ba : Blk W1 kx 26 #[.int .u8 5, .int .u8 0, .slice (some ⟨kb, 0, none⟩) 2 2, .int .u8 3, .int .u8 2, .slice (some ⟨kd, 0, none⟩) 1 1, .int .u16 200] := HM.out.get 0 rfl
  have lta := ba.lt
  have a0 := ba.c 0 rfl
  have a1 := ba.c 1 rfl
  have a2 := ba.c 2 rfl
  have a3 := ba.c 3 rfl
  have a4 := ba.c 4 rfl
  have a5 := ba.c 5 rfl
  have a6 := ba.c 6 rfl
  go_wp2_with fail
  refine HCL.out.mono ?_
  rintro e w2 ⟨v, L, s, rfl, hok, hL, hG, hA, hr, hb⟩
  obtain ⟨hK, hpl⟩ := works_area (show s.Ok 6 1 _ _ from hok) ex_may
  have hfo : FieldOk exM 1 (mayB (knownL exM [1] 1 (1 * 6 * 1) 6) 5) (inB (knownL exM [1] 1 (1 * 6 * 1) 6) 5) := known_ok exM [1] 1 (1 * 6 * 1)
  have hs2 := top_may (N := 6) (p := 2) rfl (by decide) hfo hok hL hG (by decide) ex_two
  have hs3 := top_may (N := 6) (p := 3) rfl (by decide) hfo hok hL hG (by decide) ex_three
  rw [hK] at hr hL
  obtain ⟨A, c, rfl⟩ := own_shape2 hr
  obtain ⟨d, hd⟩ : ∃ d, L[0]? = some d := ⟨_, List.getElem?_eq_getElem (by omega)⟩
  have hcg := hG 0 d hd
  have hdn : d.nm = 2 := by
    have h1 := hcg.1.nm
    rw [hcg.2.1, hpl] at h1
    exact h1.symm
  have hoks : ∀ c ∈ L, c.Ok 6 := fun c hc => by
    obtain ⟨i, hi⟩ := List.mem_iff_getElem?.1 hc
    exact (hG i c hi).1
  have hat : ∀ V, Below w2.heap.size w2 V → Calls Try.prog 6 #[.agg #[.int .i64 0, .int .i64 0, .int .i64 1000, .int .i64 6, .int .i64 1], .slice A 1 c, .int .i64 300] V (AtPost ((List.range 6).map (stA 6 1 300 L)) 6 V) := fun V hB =>
    At_ok 0 0 1000 6 1 6 W1.heap.size 1 c A 300 L V (by decide) (by decide) (by decide) (by decide) rfl (by decide) (by decide) hL (by decide) (own_belowT hr hB) hoks (fun x hx => (hA x hx).later hB)
  have hs2' : stA 6 1 300 L 2 ≠ 0 := hs2
  have hs3' : stA 6 1 300 L 3 ≠ 0 := hs3
  obtain ⟨q2, hq2⟩ : ∃ q, stA 6 1 300 L 2 = q := ⟨_, rfl⟩
  obtain ⟨q3, hq3⟩ : ∃ q, stA 6 1 300 L 3 = q := ⟨_, rfl⟩
  rw [hq2] at hs2'
  rw [hq3] at hs3'
  obtain ⟨b, cur, rfl, -, hbr, -, -, hcr⟩ := row_blk hr (by omega)
  have hmv : cur[1]? = some (.slice d.Am 2 d.cm) := by
    rw [← hdn]
    exact hcr 1 _ ((cldCells_get (j := 1) hd (by omega)).trans rfl)
  replace HM := hide (HM.out.later hb)
  have HB2 := hide (Below.refl w2.heap.size w2)
  have HAT := hide hat
  have HBR := hide hbr
  have HMV := hide hmv
  have HQ2 := hide hq2
  have HQ3 := hide hq3
  clear hat hbr hmv hq2 hq3
  clear hok hG hA hL hr hb hK hpl hfo hs2 hs3 hcg hdn hoks hd hcr HCL a0 a1 a2 a3 a4 a5 a6 lta ba
  have ba : Blk w2 kx 26 #[.int .u8 5, .int .u8 0, .slice (some ⟨kb, 0, none⟩) 2 2, .int .u8 3, .int .u8 2, .slice (some ⟨kd, 0, none⟩) 1 1, .int .u16 200] := HM.out.get 0 rfl
  have lta := ba.lt
  have a0 := ba.c 0 rfl
  have a1 := ba.c 1 rfl
  have a2 := ba.c 2 rfl
  have a3 := ba.c 3 rfl
  have a4 := ba.c 4 rfl
  have a5 := ba.c 5 rfl
  have a6 := ba.c 6 rfl
  go_wp2_with fail
  refine (HMG.out _).mono ?_
  rintro e w3 ⟨rfl, hb⟩
  replace HM := hide (HM.out.later hb)
  replace HB2 := hide (onward HB2.out hb)
  clear hb ba lta a0 a1 a2 a3 a4 a5 a6
  go_wp2_with fail
  refine (HAT.out w3 HB2.out).mono ?_
  rintro e w4 ⟨v4, rfl, hm4⟩
  have hb4 := hm4.below
  have hr4 := hm4.row_ 0 rfl
  obtain ⟨A4, c4, rfl⟩ := own_shape2 hr4
  obtain ⟨b4, cur4, rfl, -, hb4r, -, -, hcr4⟩ := row_blk hr4 (by omega)
  have z2 : w4.cell? ⟨b4, 2, none⟩ = some (.int .i64 (q2 : Nat)) := hb4r.c 2 (hcr4 2 _ (by unfold numsV; rw [← HQ2.out]; rfl))
  have z3 : w4.cell? ⟨b4, 3, none⟩ = some (.int .i64 (q3 : Nat)) := hb4r.c 3 (hcr4 3 _ (by unfold numsV; rw [← HQ3.out]; rfl))
  have ltz := hb4r.lt
  have hB24 : Below w2.heap.size w2 w4 := HB2.out.trans (hb4.mono HB2.out.size)
  have bC := blk_belowN HBR.out hB24 HBR.out.lt
  have m1 := bC.c 1 HMV.out
  have ltm := bC.lt
  replace HM := hide (HM.out.later hb4)
  clear hm4 hb4 hr4 hb4r hcr4 hB24 bC HAT HB2
  have hn2 : ¬ (q2 : Int) = 0 := by omega
  have hn3 : ¬ (q3 : Int) = 0 := by omega
  have hn2' : ((q2 : Int) == 0) = false := by simpa using hs2'
  have hn3' : ((q3 : Int) == 0) = false := by simpa using hs3'
  go_wp2
  rw [← HPP.out]
  refine ⟨?_, HM.out.below⟩
  show Ending.returned (Value.bool ((q2 : Int) != 0 && (q3 : Int) != 0)) = .returned (.bool true)
  rw [show ((q2 : Int) != 0 && (q3 : Int) != 0) = true by simp only [bne, hn2', hn3']; rfl]
end Go.Proofs.Ytidbjidcjmbnlaa
end
