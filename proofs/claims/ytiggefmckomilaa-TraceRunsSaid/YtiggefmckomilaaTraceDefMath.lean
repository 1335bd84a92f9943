/-
  A standard is entered: the book, as it lies then.
-/
import Derived.Test.YtiggefmckomilaaTracePush
set_option linter.unusedSimpArgs false
set_option linter.unusedVariables false
namespace Go.Proofs.Ytiggefmckomilaa
open Go Go.RowKit

theorem chain_none : ∀ {l : List Ent} {n : ByteArray}, stdT l n = none → chainT l n = []
  | [], _, _ => rfl
  | .radar _ _ :: l, _, h => chain_none (l := l) h
  | .test _ :: l, _, h => chain_none (l := l) h
  | .turn _ _ :: l, _, h => chain_none (l := l) h
  | .define x :: l, n, h => by
    unfold stdT at h
    split at h
    · cases h
    · rename_i hx
      rw [chainT, if_neg hx]
      exact chain_none (l := l) h
theorem wd_none : ∀ {l : List Ent} {n : ByteArray}, GoodB l → stdT l n = none → wdT l n = false
  | [], _, _, _ => rfl
  | .radar _ _ :: l, _, hg, h => wd_none (l := l) hg.2 h
  | .test _ :: l, _, hg, h => wd_none (l := l) hg.2 h
  | .turn m o :: l, n, hg, h => by
    have h' : stdT l n = none := h
    rw [wdT]
    by_cases e : m = n
    · have he : turnE l m o = 0 := by have := hg.1; unfold okEnt at this; simpa using this
      unfold turnE at he
      rw [e, h'] at he
      simp at he
      split at he <;> exact absurd he (by omega)
    · rw [if_neg e]
      exact wd_none (l := l) hg.2 h'
  | .define x :: l, n, hg, h => by
    unfold stdT at h
    split at h
    · cases h
    · exact wd_none (l := l) hg.2 h
theorem void_define {l : List Ent} {s : Std} (hg : GoodB l) (he : defineE l s = 0) (n : ByteArray) : voidT (.define s :: l) n = voidT l n := by
  obtain ⟨-, -, h3, -, h5⟩ := defineE_zero he
  have hw : wdT (.define s :: l) = wdT l := rfl
  unfold voidT
  rw [hw]
  by_cases e : s.name = n
  · subst e
    rw [chain_none h3, chainT, if_pos rfl]
    rw [List.any_cons, wd_none hg h3]
    rcases h5 with h5 | ⟨h5, -, p, -, h8, -⟩
    · rw [if_pos h5]; rfl
    · rw [if_neg h5]
      unfold voidT at h8
      rw [h8]; rfl
  · rw [chainT_cons (show Fresh (.define s) n from e)]
/-- A row moves, some blocks are new. -/
theorem nodup_gen {A c : List Nat} {v v' : Value} {B : Nat} (h : (A ++ optL v).Nodup) (hlt : ∀ k ∈ A ++ optL v, k < B) (hc : c.Nodup) (hcd : ∀ k ∈ c, k ∉ A ++ optL v) (hat : v'.ownBlock = v.ownBlock ∨ ∃ g, v'.ownBlock = some g ∧ B ≤ g ∧ g ∉ c) : (A ++ (optL v' ++ c)).Nodup := by
  rw [List.nodup_append] at h ⊢
  refine ⟨h.1, ?_, fun a ha b hb e => ?_⟩
  · rw [List.nodup_append]
    refine ⟨optL_nodup v', hc, fun a ha b hb e => ?_⟩
    subst e
    rw [optL_iff] at ha
    rcases hat with h1 | ⟨g, h1, -, h2⟩
    · exact hcd a hb (List.mem_append_right _ (optL_iff.2 (h1.symm.trans ha)))
    · rw [h1] at ha
      exact h2 (by rw [Option.some.inj ha]; exact hb)
  · subst e
    rcases List.mem_append.1 hb with hb | hb
    · rw [optL_iff] at hb
      rcases hat with h1 | ⟨g, h1, h2, -⟩
      · exact h.2.2 a ha a (optL_iff.2 (h1.symm.trans hb)) rfl
      · rw [h1] at hb
        have := Option.some.inj hb
        have := hlt a (List.mem_append_left _ ha)
        omega
    · exact hcd a hb (List.mem_append_left _ ha)
def Lay.restO (L : Lay) (p : Nat) : List Nat := p :: L.br :: L.bs :: L.bw :: L.bv :: (optL L.vt ++ (optL L.ve ++ (L.kb ++ L.cb.flatten)))
theorem Lay.perm_restO (L : Lay) (p : Nat) : (L.all p).Perm (L.restO p ++ optL L.vo) := by
  refine List.perm_iff_count.2 fun a => ?_
  simp only [Lay.all, Lay.restO, List.count_cons, List.count_append]
  omega
theorem Lay.perm_order (L : Lay) (p : Nat) (v : Value) (k : Nat) : (Lay.all { L with vo := v, kb := k :: L.kb } p).Perm (L.restO p ++ (optL v ++ [k])) := by
  refine List.perm_iff_count.2 fun a => ?_
  simp only [Lay.all, Lay.restO, List.count_cons, List.count_append, List.cons_append, List.count_nil]
  omega
theorem mem_allO {L : Lay} {p k : Nat} : k ∈ L.all p ↔ k ∈ L.restO p ++ optL L.vo := (L.perm_restO p).mem_iff

/-- The book, when the standard is in its map and in its list. -/
theorem bookQ_define {l : List Ent} {p : Nat} {L : Lay} {w w5 : World} {s : Std} {kb0 : Nat} {v : Value} (h : BookR l p L w) (hok : okEnt l (.define s) = true)
    (hm : MapV w5 Try.prog 9 L.bs (putF (fun q => (ptrT (stdsT l) L.kb q).map ptrB) s.name (ptrB kb0)) ((stdsT l).length + 1))
    (hbk : Blk w5 p 98 (bookC { L with vo := v, kb := kb0 :: L.kb }))
    (hord : w5.ownsRow 0 107 1 v ((stdsT l).length + 1) (L.kb.reverse.map ptrB ++ [ptrB kb0]))
    (hkn : Blk w5 kb0 109 (knownC s (parO l L.kb s) (madeT (.define s :: l) s.name))) (hk0 : kb0 ∉ L.all p)
    (hat : v.ownBlock = L.vo.ownBlock ∨ ∃ g, v.ownBlock = some g ∧ w.heap.size ≤ g ∧ g ≠ kb0)
    (hk : ∀ k, k < w.heap.size → k ≠ L.bs → k ≠ p → L.vo.ownBlock ≠ some k → w5.heap[k]? = w.heap[k]?) : BookQ (.define s) l p { L with vo := v, kb := kb0 :: L.kb } w5 := by
  have hlt := h.lt
  have hnd := h.nodup
  have he : defineE l s = 0 := by unfold okEnt at hok; simpa using hok
  have hnd' := hnd
  rw [(L.perm_restO p).nodup_iff] at hnd'
  have hn1 := (List.nodup_append.1 hnd').1
  have hn3 := (List.nodup_append.1 hnd').2.2
  have key : ∀ k ∈ L.br :: L.bw :: L.bv :: (optL L.vt ++ (optL L.ve ++ (L.kb ++ L.cb.flatten))), w5.heap[k]? = w.heap[k]? := fun k hm' => by
    have hmem : k ∈ L.restO p := by
      unfold Lay.restO
      simp only [List.mem_cons] at hm' ⊢
      rcases hm' with h | h | h | h
      · exact .inr (.inl h)
      · exact .inr (.inr (.inr (.inl h)))
      · exact .inr (.inr (.inr (.inr (.inl h))))
      · exact .inr (.inr (.inr (.inr (.inr h))))
    refine hk k (hlt k (mem_allO.2 (List.mem_append_left _ hmem))) (fun e => ?_) (fun e => ?_) fun e => hn3 k hmem k (optL_iff.2 e) rfl
    · unfold Lay.restO at hn1
      simp only [List.nodup_cons, List.mem_cons, not_or] at hn1
      simp only [List.mem_cons] at hm'
      subst e
      rcases hm' with h | h | h | h
      · exact hn1.2.1.1 h.symm
      · exact hn1.2.2.1.1 h
      · exact hn1.2.2.1.2.1 h
      · exact hn1.2.2.1.2.2 h
    · unfold Lay.restO at hn1
      simp only [List.nodup_cons, List.mem_cons, not_or] at hn1
      simp only [List.mem_cons] at hm'
      subst e
      rcases hm' with h | h | h | h
      · exact hn1.1.1 h
      · exact hn1.1.2.2.1 h
      · exact hn1.1.2.2.2.1 h
      · exact hn1.1.2.2.2.2 h
  obtain ⟨c6, h6a, h6⟩ := h.wd
  obtain ⟨c7, h7a, h7⟩ := h.void
  refine ⟨⟨hok, h.good⟩, ?_, hbk, h.radars.stab (key _ (by simp)), hm.congr fun n => ?_, ⟨c6, by simp; omega, h6.stab (key _ (by simp))⟩, ⟨c7, Nat.le_trans h7a (Nat.mul_le_mul (by simp) (by simp)), (h7.stab (key _ (by simp))).congr fun n => ?_⟩, ?_,
    own_stabT h.tests fun g hg => key g (by simp [optL_mem hg]), own_stabT h.entries fun g hg => key g (by simp [optL_mem hg]), ⟨hkn, h.knowns.stab fun k h' => key k (by simp [h'])⟩, h.caps.stab fun k h' => key k ?_⟩
  · rw [(L.perm_order p v kb0).nodup_iff]
    refine nodup_gen (B := w.heap.size) hnd' (fun k hk' => hlt k (mem_allO.2 hk')) (by simp) (fun k hk' hm' => ?_) ?_
    · simp only [List.mem_singleton] at hk'
      subst hk'
      exact hk0 (mem_allO.2 hm')
    · rcases hat with h1 | ⟨g, h1, h2, h3⟩
      · exact .inl h1
      · exact .inr ⟨g, h1, h2, by simpa using h3⟩
  · unfold putF
    show _ = (ptrT (stdsT (.define s :: l)) (kb0 :: L.kb) n).map ptrB
    rw [stdsT, ptrT]
    by_cases e : n = s.name
    · rw [if_pos e, if_pos e.symm]; rfl
    · rw [if_neg e, if_neg (Ne.symm e)]
  · unfold boolF
    rw [void_define h.good he]
  · show w5.ownsRow 0 107 1 v ((stdsT l).length + 1) ((kb0 :: L.kb).reverse.map ptrB)
    rw [List.reverse_cons, List.map_append]
    exact hord
  · simp only [List.mem_cons, List.mem_append]
    exact .inr (.inr (.inr (.inr (.inr (.inr h')))))
end Go.Proofs.Ytiggefmckomilaa
