/-
  Names: the program's, the library's search in it, and the reference's.
  Whether a string is a name: the program's contract, the reference's.
  Sites, grids and fields: the program's checks, the reference's.
-/
import Derived.Test.YtllpffkifleigaaWindMath6
import Derived.Test.YtllpffkifleigaaRegG
import Derived.Test.YtllpffkifleigaaWbBeam2Math
import Derived.Test.YtllpffkifleigaaShelfW
import Derived.LoopN
import Derived.WalkMore
import Derived.Deep.LoopGhost
import Derived.Deep.DeepCutAuto
import Derived.Lib.OthersKept
import Derived.Test.YtllpffkifleigaaWbBeam3
set_option linter.unusedSimpArgs false
set_option linter.unusedVariables false
section
namespace Go.Proofs.Ytllpffkifleigaa
open Go Go.RowKit

theorem ba_get {e : ByteArray} {k : Nat} {u : UInt8} (h : e[k]? = some u) (hk : k < e.size) : e[k]'hk = u := by
  rw [getElem?_pos e k hk] at h
  exact Option.some.inj h
theorem al_get (k : Nat) (h : k < alphaA.size) : (alphaA[k]'h).toNat < 128 := al_ascii _ (by
  show alphaA.data[k] ∈ alphaA.data.toList
  simp)
set_option maxHeartbeats 1000000 in
set_option maxRecDepth 100000 in
theorem IndexRune_err (w : World) :
    Calls Try.prog 133 #[.string alphaA, .int .i32 65533] w fun e w' => e = .returned (.int .i64 (-1)) ∧ Below w.heap.size w w' := by
  go_enter Try.func133, Try.ntmps133
  go_wp2_with fail
  go_loopg [] 37 (fun gf wx => ∃ pos : Nat, wx.heap[w.heap.size]? = some (.stringIter alphaA pos) ∧ Below w.heap.size w wx ∧ 37 ≤ pos + gf)
  case atStart => exact ⟨0, World.iter_heap w alphaA 0, (Below.refl _ w).alloc (Nat.le_refl _) _, by omega⟩
  case round =>
    obtain ⟨pos, hit, hbw, hfu⟩ := hrel
    have hsz : alphaA.size = 37 := rfl
    by_cases hps : pos < alphaA.size
    · obtain ⟨g', rfl⟩ : ∃ g', gk = g' + 1 := ⟨gk - 1, by omega⟩
      have ha := al_get pos hps
      have hnx : ∀ ty, (Instr.next (.pointer (some ⟨w.heap.size, 0, none⟩)) true ty).run Try.prog wr = _ := fun ty => Lib.run_next_ascii_at wr w.heap.size alphaA pos ty hit hps ha
      have hit2 := Lib.iterAt_heap wr w.heap.size alphaA pos (pos + 1) hit
      have hbw2 := Lib.below_iterAt hbw (k := w.heap.size) (Nat.le_refl _) alphaA (pos + 1)
      obtain ⟨W, hWd⟩ : ∃ W, wr.iterAt w.heap.size alphaA (pos + 1) = W := ⟨_, rfl⟩
      rw [hWd] at hnx hit2 hbw2
      generalize (alphaA[pos]'hps).toNat = R at *
      have hR : ((R : Int) == 65533) = false := by simp; omega
      clear hWd hsz
      go_wp2
      go_roundg g'
      case measure => omega
      case rel => exact ⟨pos + 1, hit2, hbw2, by omega⟩
    · have hnx : ∀ ty, (Instr.next (.pointer (some ⟨w.heap.size, 0, none⟩)) true ty).run Try.prog wr = _ := fun ty => Lib.run_next_end_at wr w.heap.size alphaA pos ty hit hps
      clear hsz
      go_wp2
      go_ret
      exact ⟨rfl, hbw⟩
set_option maxHeartbeats 1000000 in
set_option maxRecDepth 100000 in
theorem IndexRune_bad (c : Nat) (w : World) (h : 128 ≤ c) (hc : c ≤ 1114111) (hv : Lib.validRune c = false) :
    Calls Try.prog 133 #[.string alphaA, .int .i32 c] w fun e w' => e = .returned (.int .i64 (-1)) ∧ w = w' := by
  have hval : ∀ W : World, Calls Try.prog 137 #[.int .i32 (c : Int)] W fun e w' => e = .returned (.bool false) ∧ W = w' := fun W => (Try.utf8_ValidRune c W).mono fun e w' ⟨h1, h2⟩ => ⟨by rw [hv] at h1; exact h1, h2.symm⟩
  have hne : ((c : Int) == 65533) = false := by
    simp
    intro h2
    rw [h2] at hv
    revert hv
    decide
  have Hval := hide hval
  clear hval
  clear hv
  go_enter Try.func133, Try.ntmps133
  go_wp2_with fail
  refine (Hval.out _).mono ?_
  rintro e w' ⟨rfl, rfl⟩
  go_wp2
  go_ret
  exact ⟨rfl, rfl⟩
set_option maxHeartbeats 1000000 in
set_option maxRecDepth 100000 in
theorem IndexRune_good (c : Nat) (w : World) (h : 128 ≤ c) (hc : c ≤ 1114111) (hne0 : c ≠ 65533) (hv : Lib.validRune c = true) :
    Calls Try.prog 133 #[.string alphaA, .int .i32 c] w fun e w' => e = .returned (.int .i64 (-1)) ∧ Below w.heap.size w w' := by
  have hval : ∀ W : World, Calls Try.prog 137 #[.int .i32 (c : Int)] W fun e w' => e = .returned (.bool true) ∧ W = w' := fun W => (Try.utf8_ValidRune c W).mono fun e w' ⟨h1, h2⟩ => ⟨by rw [hv] at h1; exact h1, h2.symm⟩
  have hne : ((c : Int) == 65533) = false := by simp; omega
  clear hv hne0
  have Hval := hide hval
  clear hval
  go_enter Try.func133, Try.ntmps133
  go_wp2_with fail
  refine (Hval.out _).mono ?_
  rintro e w' ⟨rfl, rfl⟩
  go_wp2_with fail
  go_step3
  go_upto_region 2 with fail
  obtain ⟨n, hn, hn2, u, hu, hu2⟩ := encode_far (c := c) (by omega)
  generalize Utf8.encode c = e at *
  clear hne
  have h3 : n = 0 ∨ n = 1 ∨ n = 2 := by omega
  clear hn2
  rcases h3 with rfl | rfl | rfl
  · have hn0 : (e.size : Int) = 2 := by omega
    have h1e : 1 < e.size := by omega
    clear hn
    have HB := hide (Below.refl w.heap.size w)
    have hue := ba_get hu h1e
    have hae : (((alphaA[1]'(by decide)).toNat : Int) != ((e[1]'h1e).toNat : Int)) = true := by
      rw [hue]
      have := al_get 1 (by decide)
      simp
      omega
    have hib : ∀ W : World, Calls Try.prog 136 #[.string (alphaA.extract 2 alphaA.size), .int .u8 ((e[1]'h1e).toNat : Int)] W fun e' w' => e' = .returned (.int .i64 (-1)) ∧ W = w' := fun W => (Try.strings_IndexByte _ _ W).mono fun e' w' ⟨h1, h2⟩ => ⟨by
      rw [h1, indexByte_no]
      intro b hb
      have hb' : b.toNat < 128 := (show ∀ b ∈ (alphaA.extract 2 alphaA.size).data.toList, b.toNat < 128 by decide +kernel) b hb
      rw [hue]
      intro h4
      rw [h4] at hb'
      simp at hb'
      omega, h2.symm⟩
    have Hib := hide hib
    clear hib
    clear hue hu
    go_wp2_with fail
    refine wp_loop_rounds 1 ?_
    rw [rounds_succ]
    go_wp2_with fail
    go_step3
    go_wp2_with fail
    apply wp_region_L (w0 := w) [[], [], [], [], [], [], []] [true, true, true, true, true, true, true] [] (fun ixq y => match ixq with  | _ => undef) (fun ixq x F wq => match ixq with  | _ => True) (fun a x => a) (by kernel_rfl) (by kernel_rfl) (fun _ => rfl) [] (by kernel_rfl)
    · intro x D hD
      have hne := hD.some
      simp only [takeOps, Act.put, List.setIfInBounds_toArray, List.set_cons_succ, List.set_cons_zero]
      repeat (go_big_quiet_step (fail))
      exact wpQuiet_nil rfl
    · exact fun _ h => absurd h (by simp)
    · exact trivial
    · exact trivial
    intro xx w2 F hL hlv1
    clear hlv1
    replace HB := hide (onward HB.out hL)
    clear hL
    go_wp2_with fail
    apply wp_region_L (w0 := w2) [[], [], [], [], [], [], [], [], []] [true, true, true, true, true, true, true, true, true] [] (fun ixq y => match ixq with  | _ => undef) (fun ixq x F wq => match ixq with  | _ => True) (fun a x => a) (by kernel_rfl) (by kernel_rfl) (fun _ => rfl) [41] (by kernel_rfl)
    · intro x D hD
      have hne := hD.some
      simp only [takeOps, Act.put, List.setIfInBounds_toArray, List.set_cons_succ, List.set_cons_zero]
      repeat (go_big_quiet_step ((go_at_call 136; exact calls_same _ (Hib.out _))))
      exact wpQuiet_nil rfl
    · intro d hd x x'
      simp only [List.mem_cons, List.not_mem_nil, or_false] at hd
      rcases hd with rfl
      all_goals rfl
    · exact trivial
    · exact trivial
    intro xx2 w3 F hL2 hlv2
    clear hlv2
    clear Hib hae
    replace HB := hide (onward HB.out hL2)
    clear hL2
    go_wp2_with fail
    repeat (first | rw [Exit.noGoto_ret] | simp only [Exit.inBlock, Exit.then])
    go_ret
    exact ⟨rfl, HB.out⟩
  · have hn0 : (e.size : Int) = 3 := by omega
    have h1e : 2 < e.size := by omega
    clear hn
    have HB := hide (Below.refl w.heap.size w)
    have hue := ba_get hu h1e
    have hae : (((alphaA[2]'(by decide)).toNat : Int) != ((e[2]'h1e).toNat : Int)) = true := by
      rw [hue]
      have := al_get 2 (by decide)
      simp
      omega
    have hib : ∀ W : World, Calls Try.prog 136 #[.string (alphaA.extract 3 alphaA.size), .int .u8 ((e[2]'h1e).toNat : Int)] W fun e' w' => e' = .returned (.int .i64 (-1)) ∧ W = w' := fun W => (Try.strings_IndexByte _ _ W).mono fun e' w' ⟨h1, h2⟩ => ⟨by
      rw [h1, indexByte_no]
      intro b hb
      have hb' : b.toNat < 128 := (show ∀ b ∈ (alphaA.extract 3 alphaA.size).data.toList, b.toNat < 128 by decide +kernel) b hb
      rw [hue]
      intro h4
      rw [h4] at hb'
      simp at hb'
      omega, h2.symm⟩
    have Hib := hide hib
    clear hib
    clear hue hu
    go_wp2_with fail
    refine wp_loop_rounds 1 ?_
    rw [rounds_succ]
    go_wp2_with fail
    go_step3
    go_wp2_with fail
    apply wp_region_L (w0 := w) [[], [], [], [], [], [], []] [true, true, true, true, true, true, true] [] (fun ixq y => match ixq with  | _ => undef) (fun ixq x F wq => match ixq with  | _ => True) (fun a x => a) (by kernel_rfl) (by kernel_rfl) (fun _ => rfl) [] (by kernel_rfl)
    · intro x D hD
      have hne := hD.some
      simp only [takeOps, Act.put, List.setIfInBounds_toArray, List.set_cons_succ, List.set_cons_zero]
      repeat (go_big_quiet_step (fail))
      exact wpQuiet_nil rfl
    · exact fun _ h => absurd h (by simp)
    · exact trivial
    · exact trivial
    intro xx w2 F hL hlv3
    clear hlv3
    replace HB := hide (onward HB.out hL)
    clear hL
    go_wp2_with fail
    apply wp_region_L (w0 := w2) [[], [], [], [], [], [], [], [], []] [true, true, true, true, true, true, true, true, true] [] (fun ixq y => match ixq with  | _ => undef) (fun ixq x F wq => match ixq with  | _ => True) (fun a x => a) (by kernel_rfl) (by kernel_rfl) (fun _ => rfl) [41] (by kernel_rfl)
    · intro x D hD
      have hne := hD.some
      simp only [takeOps, Act.put, List.setIfInBounds_toArray, List.set_cons_succ, List.set_cons_zero]
      repeat (go_big_quiet_step ((go_at_call 136; exact calls_same _ (Hib.out _))))
      exact wpQuiet_nil rfl
    · intro d hd x x'
      simp only [List.mem_cons, List.not_mem_nil, or_false] at hd
      rcases hd with rfl
      all_goals rfl
    · exact trivial
    · exact trivial
    intro xx2 w3 F hL2 hlv4
    clear hlv4
    clear Hib hae
    replace HB := hide (onward HB.out hL2)
    clear hL2
    go_wp2_with fail
    repeat (first | rw [Exit.noGoto_ret] | simp only [Exit.inBlock, Exit.then])
    go_ret
    exact ⟨rfl, HB.out⟩
  · have hn0 : (e.size : Int) = 4 := by omega
    have h1e : 3 < e.size := by omega
    clear hn
    have HB := hide (Below.refl w.heap.size w)
    have hue := ba_get hu h1e
    have hae : (((alphaA[3]'(by decide)).toNat : Int) != ((e[3]'h1e).toNat : Int)) = true := by
      rw [hue]
      have := al_get 3 (by decide)
      simp
      omega
    have hib : ∀ W : World, Calls Try.prog 136 #[.string (alphaA.extract 4 alphaA.size), .int .u8 ((e[3]'h1e).toNat : Int)] W fun e' w' => e' = .returned (.int .i64 (-1)) ∧ W = w' := fun W => (Try.strings_IndexByte _ _ W).mono fun e' w' ⟨h1, h2⟩ => ⟨by
      rw [h1, indexByte_no]
      intro b hb
      have hb' : b.toNat < 128 := (show ∀ b ∈ (alphaA.extract 4 alphaA.size).data.toList, b.toNat < 128 by decide +kernel) b hb
      rw [hue]
      intro h4
      rw [h4] at hb'
      simp at hb'
      omega, h2.symm⟩
    have Hib := hide hib
    clear hib
    clear hue hu
    go_wp2_with fail
    refine wp_loop_rounds 1 ?_
    rw [rounds_succ]
    go_wp2_with fail
    go_step3
    go_wp2_with fail
    apply wp_region_L (w0 := w) [[], [], [], [], [], [], []] [true, true, true, true, true, true, true] [] (fun ixq y => match ixq with  | _ => undef) (fun ixq x F wq => match ixq with  | _ => True) (fun a x => a) (by kernel_rfl) (by kernel_rfl) (fun _ => rfl) [] (by kernel_rfl)
    · intro x D hD
      have hne := hD.some
      simp only [takeOps, Act.put, List.setIfInBounds_toArray, List.set_cons_succ, List.set_cons_zero]
      repeat (go_big_quiet_step (fail))
      exact wpQuiet_nil rfl
    · exact fun _ h => absurd h (by simp)
    · exact trivial
    · exact trivial
    intro xx w2 F hL hlv5
    clear hlv5
    replace HB := hide (onward HB.out hL)
    clear hL
    go_wp2_with fail
    apply wp_region_L (w0 := w2) [[], [], [], [], [], [], [], [], []] [true, true, true, true, true, true, true, true, true] [] (fun ixq y => match ixq with  | _ => undef) (fun ixq x F wq => match ixq with  | _ => True) (fun a x => a) (by kernel_rfl) (by kernel_rfl) (fun _ => rfl) [41] (by kernel_rfl)
    · intro x D hD
      have hne := hD.some
      simp only [takeOps, Act.put, List.setIfInBounds_toArray, List.set_cons_succ, List.set_cons_zero]
      repeat (go_big_quiet_step ((go_at_call 136; exact calls_same _ (Hib.out _))))
      exact wpQuiet_nil rfl
    · intro d hd x x'
      simp only [List.mem_cons, List.not_mem_nil, or_false] at hd
      rcases hd with rfl
      all_goals rfl
    · exact trivial
    · exact trivial
    intro xx2 w3 F hL2 hlv6
    clear hlv6
    clear Hib hae
    replace HB := hide (onward HB.out hL2)
    clear hL2
    go_wp2_with fail
    repeat (first | rw [Exit.noGoto_ret] | simp only [Exit.inBlock, Exit.then])
    go_ret
    exact ⟨rfl, HB.out⟩
theorem IndexRune_far (c : Nat) (w : World) (h : 128 ≤ c) (hc : c ≤ 1114111) :
    Calls Try.prog 133 #[.string alphaA, .int .i32 c] w fun e w' => e = .returned (.int .i64 (-1)) ∧ Below w.heap.size w w' := by
  cases hv : Lib.validRune c with
  | false => exact (IndexRune_bad c w h hc hv).mono fun e w' ⟨h1, h2⟩ => ⟨h1, h2 ▸ Below.refl _ _⟩
  | true =>
    by_cases h3 : c = 65533
    · subst h3; exact IndexRune_err w
    · exact IndexRune_good c w h hc h3 hv
theorem ContainsRune_any (c : Nat) (w : World) (hc : c ≤ 1114111) :
    Calls Try.prog 126 #[.string alphaA, .int .i32 c] w fun e w' => e = .returned (.bool (isAl c)) ∧ Below w.heap.size w w' := by
  by_cases h : c < 128
  · refine (Try.strings_ContainsRune_ascii alphaA c w (by omega) (by omega)).mono fun e w' ⟨h1, h2⟩ => ⟨?_, h2 ▸ Below.refl _ _⟩
    rw [h1, index_al' h]
  · have hn : isAl c = false := by
      cases h2 : isAl c with
      | false => rfl
      | true => have := isAl_lt h2; omega
    rw [hn]
    have hi := fun W => IndexRune_far c W (by omega) hc
    have Hi := hide hi
    clear hi
    clear hn
    go_enter Try.func126, Try.ntmps126
    have HB := hide (Below.refl w.heap.size w)
    go_wp2_with fail
    refine (Hi.out _).mono ?_
    rintro e w1 ⟨rfl, hb⟩
    replace HB := hide (onward HB.out hb)
    clear hb
    go_wp2
    go_ret
    exact ⟨rfl, HB.out⟩
theorem odd_any (c : Nat) (w : World) (hc : c ≤ 1114111) :
    Calls Try.prog 125 #[.int .i32 c] w fun e w' => e = .returned (.bool (!isAl c)) ∧ Below w.heap.size w w' := by
  have hi := fun W => ContainsRune_any c W hc
  unfold alphaA at hi
  generalize isAl c = r at *
  have Hi := hide hi
  clear hi
  go_enter Try.func125, Try.ntmps125
  have HB := hide (Below.refl w.heap.size w)
  go_wp2_with fail
  refine (Hi.out _).mono ?_
  rintro e w1 ⟨rfl, hb⟩
  replace HB := hide (onward HB.out hb)
  clear hb
  go_wp2
  go_ret
  exact ⟨rfl, HB.out⟩
/-- Where the first byte is that names have not: -1, if there is none. -/
def oddAt (s : ByteArray) : Int := match s.data.toList.findIdx? (fun b => !isAl b.toNat) with | some i => i | none => -1
theorem get_toList (s : ByteArray) (k : Nat) (h : k < s.size) : s.data.toList[k]? = some (s[k]'h) := by
  have h2 : k < s.data.toList.length := by simpa using h
  rw [List.getElem?_eq_getElem h2]
  rfl
set_option maxHeartbeats 1000000 in
set_option maxRecDepth 100000 in
theorem indexFunc_any (s : ByteArray) (w : World) :
    Calls Try.prog 135 #[.string s, .func (.func 125) #[] #[], .bool true] w fun e w' => (∃ i : Int, e = .returned (.int .i64 i) ∧ decide (0 ≤ i) = !(s.data.toList.all fun b => isAl b.toNat)) ∧ Below w.heap.size w w' := by
  go_enter Try.func135, Try.ntmps135
  go_wp2_with fail
  go_loopg [] s.size (fun gf wx => ∃ pos : Nat, wx.heap[w.heap.size]? = some (.stringIter s pos) ∧ Below w.heap.size w wx ∧ s.size ≤ pos + gf ∧ ∀ j, j < pos → ∀ b, s.data.toList[j]? = some b → isAl b.toNat = true)
  case atStart => exact ⟨0, World.iter_heap w s 0, (Below.refl _ w).alloc (Nat.le_refl _) _, by omega, fun j hj => by omega⟩
  case round =>
    obtain ⟨pos, hit, hbw, hfu, hall⟩ := hrel
    by_cases hps : pos < s.size
    · obtain ⟨g', rfl⟩ : ∃ g', gk = g' + 1 := ⟨gk - 1, by omega⟩
      have hg := get_toList s pos hps
      by_cases hal : isAl (s[pos]'hps).toNat = true
      · have ha := isAl_lt hal
        have hnx : ∀ ty, (Instr.next (.pointer (some ⟨w.heap.size, 0, none⟩)) true ty).run Try.prog wr = _ := fun ty => Lib.run_next_ascii_at wr w.heap.size s pos ty hit hps ha
        have hit2 := Lib.iterAt_heap wr w.heap.size s pos (pos + 1) hit
        have hbw2 := Lib.below_iterAt hbw (k := w.heap.size) (Nat.le_refl _) s (pos + 1)
        have hall2 : ∀ j, j < pos + 1 → ∀ b, s.data.toList[j]? = some b → isAl b.toNat = true := fun j hj b hb => by
          by_cases h : j < pos
          · exact hall j h b hb
          · obtain rfl : j = pos := by omega
            rw [hg] at hb
            rw [← Option.some.inj hb]; exact hal
        obtain ⟨W, hWd⟩ : ∃ W, wr.iterAt w.heap.size s (pos + 1) = W := ⟨_, rfl⟩
        rw [hWd] at hnx hit2 hbw2
        have hltW : w.heap.size < W.heap.size := (Array.getElem?_eq_some_iff.1 hit2).1
        have hc := odd_any (s[pos]'hps).toNat W (by omega)
        rw [hal] at hc
        generalize (s[pos]'hps).toNat = R at *
        have Hc := hide hc
        have Hall := hide hall2
        have Hit := hide hit2
        have Hbw := hide hbw2
        clear hc hall2 hit2 hbw2
        clear hWd hg hal hall hit hbw
        go_wp2_with fail
        refine Hc.out.mono ?_
        rintro e W' ⟨rfl, hbc⟩
        have Hbc := hide hbc
        clear hbc
        go_wp2
        go_roundg g'
        case measure => omega
        case rel => exact ⟨pos + 1, (Hbc.out.block _ hltW).trans Hit.out, Hbw.out.trans (Hbc.out.mono Hbw.out.size), by omega, Hall.out⟩
      · have hal' : isAl (Utf8.decode s pos).1 = false := by
          by_cases ha : (s[pos]'hps).toNat < 128
          · rw [decode_ascii s pos hps ha]
            simpa using hal
          · have := decode_far s pos hps (by omega)
            cases h2 : isAl (Utf8.decode s pos).1 with
            | false => rfl
            | true => have := isAl_lt h2; omega
        have hnot : (s.data.toList.all fun b => isAl b.toNat) = false := by
          rw [List.all_eq_false]
          exact ⟨s[pos]'hps, List.mem_of_getElem? hg, hal⟩
        have hle := Lib.rune_le s pos
        have hnx : ∀ ty, (Instr.next (.pointer (some ⟨w.heap.size, 0, none⟩)) true ty).run Try.prog wr = _ := fun ty => Lib.run_next_any_at wr w.heap.size s pos ty hit hps
        obtain ⟨R, hR⟩ : ∃ R, (Utf8.decode s pos).1 = R := ⟨_, rfl⟩
        obtain ⟨K, hK⟩ : ∃ K, (Utf8.decode s pos).2 = K := ⟨_, rfl⟩
        rw [hR, hK] at hnx
        rw [hR] at hal' hle
        have hit2 := Lib.iterAt_heap wr w.heap.size s pos (pos + K) hit
        have hbw2 := Lib.below_iterAt hbw (k := w.heap.size) (Nat.le_refl _) s (pos + K)
        obtain ⟨W, hWd⟩ : ∃ W, wr.iterAt w.heap.size s (pos + K) = W := ⟨_, rfl⟩
        rw [hWd] at hnx hit2 hbw2
        have hc := odd_any R W hle
        rw [hal'] at hc
        have Hc := hide hc
        have Hnot := hide hnot
        have Hbw := hide hbw2
        clear hc hnot hbw2
        clear hWd hg hal hall hit hbw hit2 hR hK hal'
        go_wp2_with fail
        refine Hc.out.mono ?_
        rintro e W' ⟨rfl, hbc⟩
        have Hbc := hide hbc
        clear hbc
        go_wp2
        go_ret
        exact ⟨⟨pos, rfl, by rw [Hnot.out]; simp⟩, Hbw.out.trans (Hbc.out.mono Hbw.out.size)⟩
    · have hnx : ∀ ty, (Instr.next (.pointer (some ⟨w.heap.size, 0, none⟩)) true ty).run Try.prog wr = _ := fun ty => Lib.run_next_end_at wr w.heap.size s pos ty hit hps
      have hyes : (s.data.toList.all fun b => isAl b.toNat) = true := by
        rw [List.all_eq_true]
        intro b hb
        obtain ⟨j, hj⟩ := List.getElem?_of_mem hb
        have : j < s.size := by have := (List.getElem?_eq_some_iff.1 hj).1; simpa using this
        exact hall j (by omega) b hj
      have Hyes := hide hyes
      have Hbw := hide hbw
      clear hyes hbw
      clear hall hit
      go_wp2
      go_ret
      exact ⟨⟨-1, rfl, by rw [Hyes.out]; rfl⟩, Hbw.out⟩
end Go.Proofs.Ytllpffkifleigaa
end
section
namespace Go.Proofs.Ytllpffkifleigaa
open Go Go.RowKit

theorem IndexFunc_any (s : ByteArray) (w : World) :
    Calls Try.prog 132 #[.string s, .func (.func 125) #[] #[]] w fun e w' => (∃ i : Int, e = .returned (.int .i64 i) ∧ decide (0 ≤ i) = !(s.data.toList.all fun b => isAl b.toNat)) ∧ Below w.heap.size w w' := by
  have hi := fun W => indexFunc_any s W
  have Hi := hide hi
  clear hi
  go_enter Try.func132, Try.ntmps132
  have HB := hide (Below.refl w.heap.size w)
  go_wp2_with fail
  refine (Hi.out _).mono ?_
  rintro e w1 ⟨⟨i, rfl, hd⟩, hb⟩
  replace HB := hide (onward HB.out hb)
  clear hb
  have Hd := hide hd
  clear hd
  go_wp2
  go_ret
  exact ⟨⟨i, rfl, Hd.out⟩, HB.out⟩
theorem ContainsFunc_any (s : ByteArray) (w : World) :
    Calls Try.prog 124 #[.string s, .func (.func 125) #[] #[]] w fun e w' => e = .returned (.bool (!(s.data.toList.all fun b => isAl b.toNat))) ∧ Below w.heap.size w w' := by
  have hi := fun W => IndexFunc_any s W
  have Hi := hide hi
  clear hi
  go_enter Try.func124, Try.ntmps124
  have HB := hide (Below.refl w.heap.size w)
  go_wp2_with fail
  refine (Hi.out _).mono ?_
  rintro e w1 ⟨⟨i, rfl, hd⟩, hb⟩
  replace HB := hide (onward HB.out hb)
  clear hb
  have Hd := hide hd
  clear hd
  go_wp2
  go_ret
  exact ⟨by rw [← Hd.out]; rfl, HB.out⟩
theorem empty_of (s : ByteArray) (h : s.size = 0) : s = ⟨#[]⟩ := by
  obtain ⟨a⟩ := s
  congr
  exact Array.eq_empty_of_size_eq_zero h
theorem get0 (s : ByteArray) (h : 0 < s.size) : s.data.toList.getD 0 0 = s[0]'h := by
  have := get_toList s 0 h
  simp [List.getD, this]
set_option maxHeartbeats 1000000 in
theorem Name_any (s : ByteArray) (w : World) (hs : s.size ≤ 9223372036854775807) :
    Calls Try.prog 106 #[.string s] w fun e w' => e = .returned (.bool (nameB s)) ∧ Below w.heap.size w w' := by
  by_cases h0 : s.size = 0
  · obtain rfl := empty_of s h0
    have e : nameB ⟨#[]⟩ = false := rfl
    rw [e]
    clear h0 hs e
    go_enter Try.func106, Try.ntmps106
    go_wp2
    go_ret
    exact ⟨rfl, Below.refl _ _⟩
  · have hpos : 0 < s.size := by omega
    have hne : s.toList.isEmpty = false := by
      rw [Lib.toList_data]
      cases h : s.data.toList with
      | nil => have : s.data.toList.length = s.size := by simp
               rw [h] at this; simp at this; omega
      | cons a l => rfl
    have hne2 : ¬ s.toList = [] := fun h => by rw [h] at hne; cases hne
    have hi := fun W => ContainsFunc_any s W
    have hB : nameB s = (decide (s.size ≤ 12) && decide (97 ≤ (s[0]'hpos).toNat) && decide ((s[0]'hpos).toNat ≤ 122) && s.data.toList.all fun b => isAl b.toNat) := by
      unfold nameB
      rw [get0 s hpos, decide_eq_true (show s.size ≠ 0 from h0), Bool.true_and]
    generalize (s.data.toList.all fun b => isAl b.toNat) = r at *
    have Hi := hide hi
    have HBn := hide hB
    clear hi hB
    by_cases h1 : (s.size : Int) ≤ 12
    · by_cases h2 : (97 : Int) ≤ ((s[0]'hpos).toNat : Int)
      · by_cases h3 : ((s[0]'hpos).toNat : Int) ≤ 122
        · go_enter Try.func106, Try.ntmps106
          have HB := hide (Below.refl w.heap.size w)
          go_wp2_with fail
          refine (Hi.out _).mono ?_
          rintro e w1 ⟨rfl, hb⟩
          replace HB := hide (onward HB.out hb)
          clear hb
          go_wp2
          go_ret
          exact ⟨by rw [HBn.out, decide_eq_true (show s.size ≤ 12 by omega), decide_eq_true (show 97 ≤ (s[0]'hpos).toNat by omega), decide_eq_true (show (s[0]'hpos).toNat ≤ 122 by omega)]; simp, HB.out⟩
        · go_enter Try.func106, Try.ntmps106
          go_wp2
          go_ret
          exact ⟨by rw [HBn.out, decide_eq_false (show ¬ (s[0]'hpos).toNat ≤ 122 by omega)]; simp, Below.refl _ _⟩
      · go_enter Try.func106, Try.ntmps106
        go_wp2
        go_ret
        exact ⟨by rw [HBn.out, decide_eq_false (show ¬ 97 ≤ (s[0]'hpos).toNat by omega)]; simp, Below.refl _ _⟩
    · go_enter Try.func106, Try.ntmps106
      go_wp2
      go_ret
      exact ⟨by rw [HBn.out, decide_eq_false (show ¬ s.size ≤ 12 by omega)]; simp, Below.refl _ _⟩
theorem isAl_cases {n : Nat} (h : isAl n = true) : ((97 : Int) ≤ n ∧ (n : Int) ≤ 122) ∨ ((48 : Int) ≤ n ∧ (n : Int) ≤ 57) ∨ n = 95 := by
  unfold isAl at h
  simp only [Bool.or_eq_true, Bool.and_eq_true, decide_eq_true_eq] at h
  omega
theorem isAl_not {n : Nat} (h : ¬ isAl n = true) : ¬ (97 ≤ n ∧ n ≤ 122) ∧ ¬ (48 ≤ n ∧ n ≤ 57) ∧ n ≠ 95 := by
  unfold isAl at h
  simp only [Bool.or_eq_true, Bool.and_eq_true, decide_eq_true_eq] at h
  omega
set_option maxHeartbeats 1000000 in
set_option maxRecDepth 100000 in
theorem RefName_any (s : ByteArray) (w : World) (hs : s.size ≤ 9223372036854775807) :
    Calls Try.prog 107 #[.string s] w fun e w' => e = .returned (.bool (nameB s)) ∧ w = w' := by
  by_cases h0 : s.size = 0
  · obtain rfl := empty_of s h0
    have e : nameB ⟨#[]⟩ = false := rfl
    rw [e]
    clear h0 hs e
    go_enter Try.func107, Try.ntmps107
    go_wp2
    go_ret
    exact ⟨rfl, rfl⟩
  · have hpos : 0 < s.size := by omega
    have h00 : ¬ (s.size : Int) < 1 := by omega
    have hB : nameB s = (decide (s.size ≤ 12) && decide (97 ≤ (s[0]'hpos).toNat) && decide ((s[0]'hpos).toNat ≤ 122) && s.data.toList.all fun b => isAl b.toNat) := by
      unfold nameB
      rw [get0 s hpos, decide_eq_true (show s.size ≠ 0 from h0), Bool.true_and]
    have HBn := hide hB
    clear hB
    by_cases h1 : (12 : Int) < s.size
    · go_enter Try.func107, Try.ntmps107
      go_wp2
      go_ret
      exact ⟨by rw [HBn.out, decide_eq_false (show ¬ s.size ≤ 12 by omega)]; simp, rfl⟩
    by_cases h2 : ((s[0]'hpos).toNat : Int) < 97
    · go_enter Try.func107, Try.ntmps107
      go_wp2
      go_ret
      exact ⟨by rw [HBn.out, decide_eq_false (show ¬ 97 ≤ (s[0]'hpos).toNat by omega)]; simp, rfl⟩
    by_cases h3 : (122 : Int) < ((s[0]'hpos).toNat : Int)
    · go_enter Try.func107, Try.ntmps107
      go_wp2
      go_ret
      exact ⟨by rw [HBn.out, decide_eq_false (show ¬ (s[0]'hpos).toNat ≤ 122 by omega)]; simp, rfl⟩
    have hB2 : nameB s = s.data.toList.all fun b => isAl b.toNat := by
      rw [HBn.out, decide_eq_true (show s.size ≤ 12 by omega), decide_eq_true (show 97 ≤ (s[0]'hpos).toNat by omega), decide_eq_true (show (s[0]'hpos).toNat ≤ 122 by omega)]
      simp
    have HB2 := hide hB2
    clear hB2
    clear HBn
    go_enter Try.func107, Try.ntmps107
    go_wp2
    go_loop [3] (fun i => ∃ k : Nat, k ≤ s.size ∧ i = .int .i64 k ∧ Hid (∀ j, j < k → ∀ b, s.data.toList[j]? = some b → isAl b.toNat = true)) (fun i => s.size - (intOf i).toNat)
    case atStart => exact ⟨0, by omega, rfl, fun j hj => by omega⟩
    case round =>
      obtain ⟨k, hk, rfl, hall⟩ := hrel
      by_cases hlt : k < s.size
      · have hg := get_toList s k hlt
        have hlt' : (k : Int) < s.size := by omega
        by_cases hal : isAl (s[k]'hlt).toNat = true
        · have hall2 : ∀ j, j < k + 1 → ∀ b, s.data.toList[j]? = some b → isAl b.toNat = true := fun j hj b hb => by
            by_cases h : j < k
            · exact hall j h b hb
            · obtain rfl : j = k := by omega
              rw [hg] at hb
              rw [← Option.some.inj hb]; exact hal
          have Hall := hide hall2
          clear hall2
          have hcs := isAl_cases hal
          clear hal hg hall
          rcases hcs with ⟨c1, c2⟩ | ⟨c1, c2⟩ | c1
          · have d1 : ¬ ((s[k]'hlt).toNat : Int) < 97 := by omega
            have d2 : ¬ (122 : Int) < ((s[k]'hlt).toNat : Int) := by omega
            go_wp2
            go_round
            case rel => exact ⟨k + 1, by omega, by go_num, Hall.out⟩
            case measure => simp [intOf]; omega
          · have d1 : ((s[k]'hlt).toNat : Int) < 97 := by omega
            have d2 : ¬ ((s[k]'hlt).toNat : Int) < 48 := by omega
            have d3 : ¬ (57 : Int) < ((s[k]'hlt).toNat : Int) := by omega
            go_wp2
            go_round
            case rel => exact ⟨k + 1, by omega, by go_num, Hall.out⟩
            case measure => simp [intOf]; omega
          · have d0 : ((s[k]'hlt).toNat : Int) = 95 := by omega
            clear c1
            go_wp2
            go_round
            case rel => exact ⟨k + 1, by omega, by go_num, Hall.out⟩
            case measure => simp [intOf]; omega
        · have hnot : nameB s = false := by
            rw [HB2.out, List.all_eq_false]
            exact ⟨s[k]'hlt, List.mem_of_getElem? hg, hal⟩
          obtain ⟨c1, c2, c3⟩ := isAl_not hal
          have c4 : (((s[k]'hlt).toNat : Int) != 95) = true := by simp; omega
          have c5 : (((s[k]'hlt).toNat : Int) == 95) = false := by simp; omega
          have Hnot := hide hnot
          clear hnot
          clear hal hg hall
          have h4 : ((s[k]'hlt).toNat : Int) < 48 ∨ ((57 : Int) < ((s[k]'hlt).toNat : Int) ∧ ((s[k]'hlt).toNat : Int) < 97) ∨ (122 : Int) < ((s[k]'hlt).toNat : Int) := by omega
          clear c1 c2 c3
          rcases h4 with h4 | ⟨h4, h5⟩ | h4
          · have d1 : ((s[k]'hlt).toNat : Int) < 97 := by omega
            go_wp2
            go_ret
            exact ⟨by rw [Hnot.out]; rfl, rfl⟩
          · have d1 : ¬ ((s[k]'hlt).toNat : Int) < 48 := by omega
            go_wp2
            go_ret
            exact ⟨by rw [Hnot.out]; rfl, rfl⟩
          · have d1 : ¬ ((s[k]'hlt).toNat : Int) < 97 := by omega
            have d2 : ¬ ((s[k]'hlt).toNat : Int) < 48 := by omega
            have d3 : (57 : Int) < ((s[k]'hlt).toNat : Int) := by omega
            go_wp2
            go_ret
            exact ⟨by rw [Hnot.out]; rfl, rfl⟩
      · have hyes : nameB s = true := by
          rw [HB2.out, List.all_eq_true]
          intro b hb
          obtain ⟨j, hj⟩ := List.getElem?_of_mem hb
          have : j < s.size := by have := (List.getElem?_eq_some_iff.1 hj).1; simpa using this
          exact hall j (by omega) b hj
        have Hyes := hide hyes
        clear hyes
        clear hall
        go_wp2
        go_ret
        exact ⟨by rw [Hyes.out]; rfl, rfl⟩
end Go.Proofs.Ytllpffkifleigaa
end
section
namespace Go.Proofs.Ytllpffkifleigaa
open Go Go.RowKit

def gridE (x y sz wi hi : Int) : Int := if (winBQ x (-1048576) 1048576 && winBQ y (-1048576) 1048576 && winBQ sz 1 10000 && winBQ wi 1 64 && winBQ hi 1 64) = true then 0 else 3
theorem gridE_ok {x y sz wi hi : Int} (h : gridE x y sz wi hi = 0) : -1048576 ≤ x ∧ x ≤ 1048576 ∧ -1048576 ≤ y ∧ y ≤ 1048576 ∧ 1 ≤ sz ∧ sz ≤ 10000 ∧ 1 ≤ wi ∧ wi ≤ 64 ∧ 1 ≤ hi ∧ hi ≤ 64 := by
  unfold gridE at h
  split at h
  · rename_i h2
    simp only [Bool.and_eq_true, winB_iff] at h2
    omega
  · omega
def okS (most : Int) (p : Int × Int) : Bool := decide (0 ≤ p.1 ∧ p.1 ≤ p.2 ∧ p.2 ≤ most)
def fieldE (ge : Int) (n : Nat) (wi hi : Int) (l : List (Int × Int)) (most : Int) : Int := if ge ≠ 0 then ge else if (n : Int) ≠ wi * hi then 11 else if l.all (okS most) = true then 0 else 3
def gridV (x y sz wi hi : Int) : Value := .agg #[.int .i64 x, .int .i64 y, .int .i64 sz, .int .i64 wi, .int .i64 hi]
def fieldV (x y sz wi hi : Int) (A : Option Addr) (n c : Nat) : Value := .agg #[.int .i64 x, .int .i64 y, .int .i64 sz, .int .i64 wi, .int .i64 hi, .slice A n c]
theorem Blk.c5 {w : World} {g : Nat} {t : TypeId} {a0 a1 a2 a3 a4 : Value} (h : Blk w g t #[a0, a1, a2, a3, a4]) : w.cell? ⟨g, 0, none⟩ = some a0 ∧ w.cell? ⟨g, 1, none⟩ = some a1 ∧ w.cell? ⟨g, 2, none⟩ = some a2 ∧ w.cell? ⟨g, 3, none⟩ = some a3 ∧ w.cell? ⟨g, 4, none⟩ = some a4 :=
  ⟨h.c 0 rfl, h.c 1 rfl, h.c 2 rfl, h.c 3 rfl, h.c 4 rfl⟩
theorem Blk.c6 {w : World} {g : Nat} {t : TypeId} {a0 a1 a2 a3 a4 a5 : Value} (h : Blk w g t #[a0, a1, a2, a3, a4, a5]) : w.cell? ⟨g, 0, none⟩ = some a0 ∧ w.cell? ⟨g, 1, none⟩ = some a1 ∧ w.cell? ⟨g, 2, none⟩ = some a2 ∧ w.cell? ⟨g, 3, none⟩ = some a3 ∧ w.cell? ⟨g, 4, none⟩ = some a4 ∧ w.cell? ⟨g, 5, none⟩ = some a5 :=
  ⟨h.c 0 rfl, h.c 1 rfl, h.c 2 rfl, h.c 3 rfl, h.c 4 rfl, h.c 5 rfl⟩

set_option maxHeartbeats 2000000 in
set_option maxRecDepth 100000 in
theorem RefCheckSite_any (s : ByteArray) (x y z r g st wd : Int) (w : World) (hs : s.size ≤ 9223372036854775807) :
    Calls Try.prog 91 #[siteV s x y z r g st wd] w fun e w' => e = .returned (.int .i64 (siteE (nameB s) x y z r g st wd)) ∧ Below w.heap.size w w' := by
  have hnm := fun W => RefName_any s W hs
  unfold siteV
  generalize nameB s = nb at *
  have Hnm := hide hnm
  clear hnm hs
  cases nb with
  | true =>
    go_enter Try.func91, Try.ntmps91
    have HB := hide (Below.refl w.heap.size w)
    go_wp2_with fail
    refine at_world fun W hW => ?_
    have bq0 : Blk W w.heap.size 83 #[.string s, .int .i64 x, .int .i64 y, .int .i64 z, .int .i64 r, .int .i64 g, .int .i64 st, .int .i64 wd] := by rw [hW]; exact Blk.new _ _ _
    have LW : Later w W := by rw [hW]; exact ((Below.refl _ _).alloc (Nat.le_refl _) _)
    have szW : W.heap.size = w.heap.size + 1 := by rw [hW]; simp
    clear hW
    replace HB := hide (onward HB.out LW)
    have Hs := hide bq0
    clear bq0 LW szW
    refine (Hnm.out _).mono ?_
    rintro e w' ⟨rfl, rfl⟩
    obtain ⟨q0, q1, q2, q3, q4, q5, q6, q7⟩ := Hs.out.site8
    have lts := Hs.out.lt
    go_wp2_with (go_at_call 60; refine (In_any _ _ _ _).mono ?_; rintro e w' ⟨rfl, rfl⟩)
    all_goals
      go_ret
      simp only [Bool.not_eq_true', Bool.not_eq_false'] at *
      refine ⟨ret_int ?_, HB.out⟩
      first | (simp [siteE, *]; done) | (exfalso; clear Hnm HB Hs q0 q1 q2 q3 q4 q5 q6 q7; simp_all; done)
  | false =>
    go_enter Try.func91, Try.ntmps91
    have HB := hide (Below.refl w.heap.size w)
    go_wp2_with fail
    refine at_world fun W hW => ?_
    have bq0 : Blk W w.heap.size 83 #[.string s, .int .i64 x, .int .i64 y, .int .i64 z, .int .i64 r, .int .i64 g, .int .i64 st, .int .i64 wd] := by rw [hW]; exact Blk.new _ _ _
    have LW : Later w W := by rw [hW]; exact ((Below.refl _ _).alloc (Nat.le_refl _) _)
    have szW : W.heap.size = w.heap.size + 1 := by rw [hW]; simp
    clear hW
    replace HB := hide (onward HB.out LW)
    have Hs := hide bq0
    clear bq0 LW szW
    refine (Hnm.out _).mono ?_
    rintro e w' ⟨rfl, rfl⟩
    go_wp2
    go_ret
    exact ⟨ret_int (by simp [siteE]), HB.out⟩
end Go.Proofs.Ytllpffkifleigaa
end
