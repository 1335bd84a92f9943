/-
  Names: the program's, the library's search in it, and the reference's.
  Whether a string is a name: the program's contract, the reference's.
  Sites, grids and fields: the program's checks, the reference's.
  Fields: the program's checks, the reference's.
  Heights of gates: the program's inner contracts.
  Heights of gates: the program's contracts.
  Heights of gates: the reference's inner contracts.
  Ground ranges, heights and bands: the program's contracts, the reference's.
  Gates, and places found: the program's contracts.
  Places found, pixels: the program's contracts.
  Places found: the program's exported Find.
  Quarter turns of places found; the law's own small functions.
  Pixels and places: the program's contracts.
  Pixels and places: the exported contracts.
  Bands: the program's contract, the reference's; and the reference's ground ranges.
  Pixels and places: the reference's.
  The reference's places and borders.
  The reference's Find.
-/
import Derived.Test.YtllpffkifleigaaWindMath6
import Derived.Test.YtllpffkifleigaaWbRefDivs
import Derived.Test.YtllpffkifleigaaWbSectorMath2
import Derived.Test.YtllpffkifleigaaShelfW
import Derived.LoopN
import Derived.WalkMore
import Derived.Deep.LoopGhost
import Derived.Deep.DeepCutAuto
import Derived.Lib.OthersKept
import Derived.Test.YtllpffkifleigaaWbBeamLaw1
set_option linter.unusedSimpArgs false
set_option linter.unusedVariables false
section
namespace Go.Proofs.Ytllpffkifleigaa
open Go Go.RowKit

theorem ba_get {e : ByteArray} {k : Nat} {u : UInt8} (h : e[k]? = some u) (hk : k < e.size) : e[k]'hk = u := by
  rw [getElem?_pos e k hk] at h
  exact Option.some.inj h
theorem al_get (k : Nat) (h : k < alphaA.size) : (alphaA[k]'h).toNat < 128 := al_ascii _ (by
  show alphaA.data[k] ∈ alphaA.data.toList
  simp)
set_option maxHeartbeats 1000000 in
set_option maxRecDepth 100000 in
theorem IndexRune_err (w : World) :
    Calls Try.prog 133 #[.string alphaA, .int .i32 65533] w fun e w' => e = .returned (.int .i64 (-1)) ∧ Below w.heap.size w w' := by
  go_enter Try.func133, Try.ntmps133
  go_wp2_with fail
  go_loopg [] 37 (fun gf wx => ∃ pos : Nat, wx.heap[w.heap.size]? = some (.stringIter alphaA pos) ∧ Below w.heap.size w wx ∧ 37 ≤ pos + gf)
  case atStart => exact ⟨0, World.iter_heap w alphaA 0, (Below.refl _ w).alloc (Nat.le_refl _) _, by omega⟩
  case round =>
    obtain ⟨pos, hit, hbw, hfu⟩ := hrel
    have hsz : alphaA.size = 37 := rfl
    by_cases hps : pos < alphaA.size
    · obtain ⟨g', rfl⟩ : ∃ g', gk = g' + 1 := ⟨gk - 1, by omega⟩
      have ha := al_get pos hps
      have hnx : ∀ ty, (Instr.next (.pointer (some ⟨w.heap.size, 0, none⟩)) true ty).run Try.prog wr = _ := fun ty => Lib.run_next_ascii_at wr w.heap.size alphaA pos ty hit hps ha
      have hit2 := Lib.iterAt_heap wr w.heap.size alphaA pos (pos + 1) hit
      have hbw2 := Lib.below_iterAt hbw (k := w.heap.size) (Nat.le_refl _) alphaA (pos + 1)
      obtain ⟨W, hWd⟩ : ∃ W, wr.iterAt w.heap.size alphaA (pos + 1) = W := ⟨_, rfl⟩
      rw [hWd] at hnx hit2 hbw2
      generalize (alphaA[pos]'hps).toNat = R at *
      have hR : ((R : Int) == 65533) = false := by simp; omega
      clear hWd hsz
      go_wp2
      go_roundg g'
      case measure => omega
      case rel => exact ⟨pos + 1, hit2, hbw2, by omega⟩
    · have hnx : ∀ ty, (Instr.next (.pointer (some ⟨w.heap.size, 0, none⟩)) true ty).run Try.prog wr = _ := fun ty => Lib.run_next_end_at wr w.heap.size alphaA pos ty hit hps
      clear hsz
      go_wp2
      go_ret
      exact ⟨rfl, hbw⟩
set_option maxHeartbeats 1000000 in
set_option maxRecDepth 100000 in
theorem IndexRune_bad (c : Nat) (w : World) (h : 128 ≤ c) (hc : c ≤ 1114111) (hv : Lib.validRune c = false) :
    Calls Try.prog 133 #[.string alphaA, .int .i32 c] w fun e w' => e = .returned (.int .i64 (-1)) ∧ w = w' := by
  have hval : ∀ W : World, Calls Try.prog 137 #[.int .i32 (c : Int)] W fun e w' => e = .returned (.bool false) ∧ W = w' := fun W => (Try.utf8_ValidRune c W).mono fun e w' ⟨h1, h2⟩ => ⟨by rw [hv] at h1; exact h1, h2.symm⟩
  have hne : ((c : Int) == 65533) = false := by
    simp
    intro h2
    rw [h2] at hv
    revert hv
    decide
  have Hval := hide hval
  clear hval
  clear hv
  go_enter Try.func133, Try.ntmps133
  go_wp2_with fail
  refine (Hval.out _).mono ?_
  rintro e w' ⟨rfl, rfl⟩
  go_wp2
  go_ret
  exact ⟨rfl, rfl⟩
set_option maxHeartbeats 1000000 in
set_option maxRecDepth 100000 in
theorem IndexRune_good (c : Nat) (w : World) (h : 128 ≤ c) (hc : c ≤ 1114111) (hne0 : c ≠ 65533) (hv : Lib.validRune c = true) :
    Calls Try.prog 133 #[.string alphaA, .int .i32 c] w fun e w' => e = .returned (.int .i64 (-1)) ∧ Below w.heap.size w w' := by
  have hval : ∀ W : World, Calls Try.prog 137 #[.int .i32 (c : Int)] W fun e w' => e = .returned (.bool true) ∧ W = w' := fun W => (Try.utf8_ValidRune c W).mono fun e w' ⟨h1, h2⟩ => ⟨by rw [hv] at h1; exact h1, h2.symm⟩
  have hne : ((c : Int) == 65533) = false := by simp; omega
  clear hv hne0
  have Hval := hide hval
  clear hval
  go_enter Try.func133, Try.ntmps133
  go_wp2_with fail
  refine (Hval.out _).mono ?_
  rintro e w' ⟨rfl, rfl⟩
  go_wp2_with fail
  go_step3
  go_upto_region 2 with fail
  obtain ⟨n, hn, hn2, u, hu, hu2⟩ := encode_far (c := c) (by omega)
  generalize Utf8.encode c = e at *
  clear hne
  have h3 : n = 0 ∨ n = 1 ∨ n = 2 := by omega
  clear hn2
  rcases h3 with rfl | rfl | rfl
  · have hn0 : (e.size : Int) = 2 := by omega
    have h1e : 1 < e.size := by omega
    clear hn
    have HB := hide (Below.refl w.heap.size w)
    have hue := ba_get hu h1e
    have hae : (((alphaA[1]'(by decide)).toNat : Int) != ((e[1]'h1e).toNat : Int)) = true := by
      rw [hue]
      have := al_get 1 (by decide)
      simp
      omega
    have hib : ∀ W : World, Calls Try.prog 136 #[.string (alphaA.extract 2 alphaA.size), .int .u8 ((e[1]'h1e).toNat : Int)] W fun e' w' => e' = .returned (.int .i64 (-1)) ∧ W = w' := fun W => (Try.strings_IndexByte _ _ W).mono fun e' w' ⟨h1, h2⟩ => ⟨by
      rw [h1, indexByte_no]
      intro b hb
      have hb' : b.toNat < 128 := (show ∀ b ∈ (alphaA.extract 2 alphaA.size).data.toList, b.toNat < 128 by decide +kernel) b hb
      rw [hue]
      intro h4
      rw [h4] at hb'
      simp at hb'
      omega, h2.symm⟩
    have Hib := hide hib
    clear hib
    clear hue hu
    go_wp2_with fail
    refine wp_loop_rounds 1 ?_
    rw [rounds_succ]
    go_wp2_with fail
    go_step3
    go_wp2_with fail
    apply wp_region_L (w0 := w) [[], [], [], [], [], [], []] [true, true, true, true, true, true, true] [] (fun ixq y => match ixq with  | _ => undef) (fun ixq x F wq => match ixq with  | _ => True) (fun a x => a) (by kernel_rfl) (by kernel_rfl) (fun _ => rfl) [] (by kernel_rfl)
    · intro x D hD
      have hne := hD.some
      simp only [takeOps, Act.put, List.setIfInBounds_toArray, List.set_cons_succ, List.set_cons_zero]
      repeat (go_big_quiet_step (fail))
      exact wpQuiet_nil rfl
    · exact fun _ h => absurd h (by simp)
    · exact trivial
    · exact trivial
    intro xx w2 F hL hlv1
    clear hlv1
    replace HB := hide (onward HB.out hL)
    clear hL
    go_wp2_with fail
    apply wp_region_L (w0 := w2) [[], [], [], [], [], [], [], [], []] [true, true, true, true, true, true, true, true, true] [] (fun ixq y => match ixq with  | _ => undef) (fun ixq x F wq => match ixq with  | _ => True) (fun a x => a) (by kernel_rfl) (by kernel_rfl) (fun _ => rfl) [41] (by kernel_rfl)
    · intro x D hD
      have hne := hD.some
      simp only [takeOps, Act.put, List.setIfInBounds_toArray, List.set_cons_succ, List.set_cons_zero]
      repeat (go_big_quiet_step ((go_at_call 136; exact calls_same _ (Hib.out _))))
      exact wpQuiet_nil rfl
    · intro d hd x x'
      simp only [List.mem_cons, List.not_mem_nil, or_false] at hd
      rcases hd with rfl
      all_goals rfl
    · exact trivial
    · exact trivial
    intro xx2 w3 F hL2 hlv2
    clear hlv2
    clear Hib hae
    replace HB := hide (onward HB.out hL2)
    clear hL2
    go_wp2_with fail
    repeat (first | rw [Exit.noGoto_ret] | simp only [Exit.inBlock, Exit.then])
    go_ret
    exact ⟨rfl, HB.out⟩
  · have hn0 : (e.size : Int) = 3 := by omega
    have h1e : 2 < e.size := by omega
    clear hn
    have HB := hide (Below.refl w.heap.size w)
    have hue := ba_get hu h1e
    have hae : (((alphaA[2]'(by decide)).toNat : Int) != ((e[2]'h1e).toNat : Int)) = true := by
      rw [hue]
      have := al_get 2 (by decide)
      simp
      omega
    have hib : ∀ W : World, Calls Try.prog 136 #[.string (alphaA.extract 3 alphaA.size), .int .u8 ((e[2]'h1e).toNat : Int)] W fun e' w' => e' = .returned (.int .i64 (-1)) ∧ W = w' := fun W => (Try.strings_IndexByte _ _ W).mono fun e' w' ⟨h1, h2⟩ => ⟨by
      rw [h1, indexByte_no]
      intro b hb
      have hb' : b.toNat < 128 := (show ∀ b ∈ (alphaA.extract 3 alphaA.size).data.toList, b.toNat < 128 by decide +kernel) b hb
      rw [hue]
      intro h4
      rw [h4] at hb'
      simp at hb'
      omega, h2.symm⟩
    have Hib := hide hib
    clear hib
    clear hue hu
    go_wp2_with fail
    refine wp_loop_rounds 1 ?_
    rw [rounds_succ]
    go_wp2_with fail
    go_step3
    go_wp2_with fail
    apply wp_region_L (w0 := w) [[], [], [], [], [], [], []] [true, true, true, true, true, true, true] [] (fun ixq y => match ixq with  | _ => undef) (fun ixq x F wq => match ixq with  | _ => True) (fun a x => a) (by kernel_rfl) (by kernel_rfl) (fun _ => rfl) [] (by kernel_rfl)
    · intro x D hD
      have hne := hD.some
      simp only [takeOps, Act.put, List.setIfInBounds_toArray, List.set_cons_succ, List.set_cons_zero]
      repeat (go_big_quiet_step (fail))
      exact wpQuiet_nil rfl
    · exact fun _ h => absurd h (by simp)
    · exact trivial
    · exact trivial
    intro xx w2 F hL hlv3
    clear hlv3
    replace HB := hide (onward HB.out hL)
    clear hL
    go_wp2_with fail
    apply wp_region_L (w0 := w2) [[], [], [], [], [], [], [], [], []] [true, true, true, true, true, true, true, true, true] [] (fun ixq y => match ixq with  | _ => undef) (fun ixq x F wq => match ixq with  | _ => True) (fun a x => a) (by kernel_rfl) (by kernel_rfl) (fun _ => rfl) [41] (by kernel_rfl)
    · intro x D hD
      have hne := hD.some
      simp only [takeOps, Act.put, List.setIfInBounds_toArray, List.set_cons_succ, List.set_cons_zero]
      repeat (go_big_quiet_step ((go_at_call 136; exact calls_same _ (Hib.out _))))
      exact wpQuiet_nil rfl
    · intro d hd x x'
      simp only [List.mem_cons, List.not_mem_nil, or_false] at hd
      rcases hd with rfl
      all_goals rfl
    · exact trivial
    · exact trivial
    intro xx2 w3 F hL2 hlv4
    clear hlv4
    clear Hib hae
    replace HB := hide (onward HB.out hL2)
    clear hL2
    go_wp2_with fail
    repeat (first | rw [Exit.noGoto_ret] | simp only [Exit.inBlock, Exit.then])
    go_ret
    exact ⟨rfl, HB.out⟩
  · have hn0 : (e.size : Int) = 4 := by omega
    have h1e : 3 < e.size := by omega
    clear hn
    have HB := hide (Below.refl w.heap.size w)
    have hue := ba_get hu h1e
    have hae : (((alphaA[3]'(by decide)).toNat : Int) != ((e[3]'h1e).toNat : Int)) = true := by
      rw [hue]
      have := al_get 3 (by decide)
      simp
      omega
    have hib : ∀ W : World, Calls Try.prog 136 #[.string (alphaA.extract 4 alphaA.size), .int .u8 ((e[3]'h1e).toNat : Int)] W fun e' w' => e' = .returned (.int .i64 (-1)) ∧ W = w' := fun W => (Try.strings_IndexByte _ _ W).mono fun e' w' ⟨h1, h2⟩ => ⟨by
      rw [h1, indexByte_no]
      intro b hb
      have hb' : b.toNat < 128 := (show ∀ b ∈ (alphaA.extract 4 alphaA.size).data.toList, b.toNat < 128 by decide +kernel) b hb
      rw [hue]
      intro h4
      rw [h4] at hb'
      simp at hb'
      omega, h2.symm⟩
    have Hib := hide hib
    clear hib
    clear hue hu
    go_wp2_with fail
    refine wp_loop_rounds 1 ?_
    rw [rounds_succ]
    go_wp2_with fail
    go_step3
    go_wp2_with fail
    apply wp_region_L (w0 := w) [[], [], [], [], [], [], []] [true, true, true, true, true, true, true] [] (fun ixq y => match ixq with  | _ => undef) (fun ixq x F wq => match ixq with  | _ => True) (fun a x => a) (by kernel_rfl) (by kernel_rfl) (fun _ => rfl) [] (by kernel_rfl)
    · intro x D hD
      have hne := hD.some
      simp only [takeOps, Act.put, List.setIfInBounds_toArray, List.set_cons_succ, List.set_cons_zero]
      repeat (go_big_quiet_step (fail))
      exact wpQuiet_nil rfl
    · exact fun _ h => absurd h (by simp)
    · exact trivial
    · exact trivial
    intro xx w2 F hL hlv5
    clear hlv5
    replace HB := hide (onward HB.out hL)
    clear hL
    go_wp2_with fail
    apply wp_region_L (w0 := w2) [[], [], [], [], [], [], [], [], []] [true, true, true, true, true, true, true, true, true] [] (fun ixq y => match ixq with  | _ => undef) (fun ixq x F wq => match ixq with  | _ => True) (fun a x => a) (by kernel_rfl) (by kernel_rfl) (fun _ => rfl) [41] (by kernel_rfl)
    · intro x D hD
      have hne := hD.some
      simp only [takeOps, Act.put, List.setIfInBounds_toArray, List.set_cons_succ, List.set_cons_zero]
      repeat (go_big_quiet_step ((go_at_call 136; exact calls_same _ (Hib.out _))))
      exact wpQuiet_nil rfl
    · intro d hd x x'
      simp only [List.mem_cons, List.not_mem_nil, or_false] at hd
      rcases hd with rfl
      all_goals rfl
    · exact trivial
    · exact trivial
    intro xx2 w3 F hL2 hlv6
    clear hlv6
    clear Hib hae
    replace HB := hide (onward HB.out hL2)
    clear hL2
    go_wp2_with fail
    repeat (first | rw [Exit.noGoto_ret] | simp only [Exit.inBlock, Exit.then])
    go_ret
    exact ⟨rfl, HB.out⟩
theorem IndexRune_far (c : Nat) (w : World) (h : 128 ≤ c) (hc : c ≤ 1114111) :
    Calls Try.prog 133 #[.string alphaA, .int .i32 c] w fun e w' => e = .returned (.int .i64 (-1)) ∧ Below w.heap.size w w' := by
  cases hv : Lib.validRune c with
  | false => exact (IndexRune_bad c w h hc hv).mono fun e w' ⟨h1, h2⟩ => ⟨h1, h2 ▸ Below.refl _ _⟩
  | true =>
    by_cases h3 : c = 65533
    · subst h3; exact IndexRune_err w
    · exact IndexRune_good c w h hc h3 hv
theorem ContainsRune_any (c : Nat) (w : World) (hc : c ≤ 1114111) :
    Calls Try.prog 126 #[.string alphaA, .int .i32 c] w fun e w' => e = .returned (.bool (isAl c)) ∧ Below w.heap.size w w' := by
  by_cases h : c < 128
  · refine (Try.strings_ContainsRune_ascii alphaA c w (by omega) (by omega)).mono fun e w' ⟨h1, h2⟩ => ⟨?_, h2 ▸ Below.refl _ _⟩
    rw [h1, index_al' h]
  · have hn : isAl c = false := by
      cases h2 : isAl c with
      | false => rfl
      | true => have := isAl_lt h2; omega
    rw [hn]
    have hi := fun W => IndexRune_far c W (by omega) hc
    have Hi := hide hi
    clear hi
    clear hn
    go_enter Try.func126, Try.ntmps126
    have HB := hide (Below.refl w.heap.size w)
    go_wp2_with fail
    refine (Hi.out _).mono ?_
    rintro e w1 ⟨rfl, hb⟩
    replace HB := hide (onward HB.out hb)
    clear hb
    go_wp2
    go_ret
    exact ⟨rfl, HB.out⟩
theorem odd_any (c : Nat) (w : World) (hc : c ≤ 1114111) :
    Calls Try.prog 125 #[.int .i32 c] w fun e w' => e = .returned (.bool (!isAl c)) ∧ Below w.heap.size w w' := by
  have hi := fun W => ContainsRune_any c W hc
  unfold alphaA at hi
  generalize isAl c = r at *
  have Hi := hide hi
  clear hi
  go_enter Try.func125, Try.ntmps125
  have HB := hide (Below.refl w.heap.size w)
  go_wp2_with fail
  refine (Hi.out _).mono ?_
  rintro e w1 ⟨rfl, hb⟩
  replace HB := hide (onward HB.out hb)
  clear hb
  go_wp2
  go_ret
  exact ⟨rfl, HB.out⟩
/-- Where the first byte is that names have not: -1, if there is none. -/
def oddAt (s : ByteArray) : Int := match s.data.toList.findIdx? (fun b => !isAl b.toNat) with | some i => i | none => -1
theorem get_toList (s : ByteArray) (k : Nat) (h : k < s.size) : s.data.toList[k]? = some (s[k]'h) := by
  have h2 : k < s.data.toList.length := by simpa using h
  rw [List.getElem?_eq_getElem h2]
  rfl
set_option maxHeartbeats 1000000 in
set_option maxRecDepth 100000 in
theorem indexFunc_any (s : ByteArray) (w : World) :
    Calls Try.prog 135 #[.string s, .func (.func 125) #[] #[], .bool true] w fun e w' => (∃ i : Int, e = .returned (.int .i64 i) ∧ decide (0 ≤ i) = !(s.data.toList.all fun b => isAl b.toNat)) ∧ Below w.heap.size w w' := by
  go_enter Try.func135, Try.ntmps135
  go_wp2_with fail
  go_loopg [] s.size (fun gf wx => ∃ pos : Nat, wx.heap[w.heap.size]? = some (.stringIter s pos) ∧ Below w.heap.size w wx ∧ s.size ≤ pos + gf ∧ ∀ j, j < pos → ∀ b, s.data.toList[j]? = some b → isAl b.toNat = true)
  case atStart => exact ⟨0, World.iter_heap w s 0, (Below.refl _ w).alloc (Nat.le_refl _) _, by omega, fun j hj => by omega⟩
  case round =>
    obtain ⟨pos, hit, hbw, hfu, hall⟩ := hrel
    by_cases hps : pos < s.size
    · obtain ⟨g', rfl⟩ : ∃ g', gk = g' + 1 := ⟨gk - 1, by omega⟩
      have hg := get_toList s pos hps
      by_cases hal : isAl (s[pos]'hps).toNat = true
      · have ha := isAl_lt hal
        have hnx : ∀ ty, (Instr.next (.pointer (some ⟨w.heap.size, 0, none⟩)) true ty).run Try.prog wr = _ := fun ty => Lib.run_next_ascii_at wr w.heap.size s pos ty hit hps ha
        have hit2 := Lib.iterAt_heap wr w.heap.size s pos (pos + 1) hit
        have hbw2 := Lib.below_iterAt hbw (k := w.heap.size) (Nat.le_refl _) s (pos + 1)
        have hall2 : ∀ j, j < pos + 1 → ∀ b, s.data.toList[j]? = some b → isAl b.toNat = true := fun j hj b hb => by
          by_cases h : j < pos
          · exact hall j h b hb
          · obtain rfl : j = pos := by omega
            rw [hg] at hb
            rw [← Option.some.inj hb]; exact hal
        obtain ⟨W, hWd⟩ : ∃ W, wr.iterAt w.heap.size s (pos + 1) = W := ⟨_, rfl⟩
        rw [hWd] at hnx hit2 hbw2
        have hltW : w.heap.size < W.heap.size := (Array.getElem?_eq_some_iff.1 hit2).1
        have hc := odd_any (s[pos]'hps).toNat W (by omega)
        rw [hal] at hc
        generalize (s[pos]'hps).toNat = R at *
        have Hc := hide hc
        have Hall := hide hall2
        have Hit := hide hit2
        have Hbw := hide hbw2
        clear hc hall2 hit2 hbw2
        clear hWd hg hal hall hit hbw
        go_wp2_with fail
        refine Hc.out.mono ?_
        rintro e W' ⟨rfl, hbc⟩
        have Hbc := hide hbc
        clear hbc
        go_wp2
        go_roundg g'
        case measure => omega
        case rel => exact ⟨pos + 1, (Hbc.out.block _ hltW).trans Hit.out, Hbw.out.trans (Hbc.out.mono Hbw.out.size), by omega, Hall.out⟩
      · have hal' : isAl (Utf8.decode s pos).1 = false := by
          by_cases ha : (s[pos]'hps).toNat < 128
          · rw [decode_ascii s pos hps ha]
            simpa using hal
          · have := decode_far s pos hps (by omega)
            cases h2 : isAl (Utf8.decode s pos).1 with
            | false => rfl
            | true => have := isAl_lt h2; omega
        have hnot : (s.data.toList.all fun b => isAl b.toNat) = false := by
          rw [List.all_eq_false]
          exact ⟨s[pos]'hps, List.mem_of_getElem? hg, hal⟩
        have hle := Lib.rune_le s pos
        have hnx : ∀ ty, (Instr.next (.pointer (some ⟨w.heap.size, 0, none⟩)) true ty).run Try.prog wr = _ := fun ty => Lib.run_next_any_at wr w.heap.size s pos ty hit hps
        obtain ⟨R, hR⟩ : ∃ R, (Utf8.decode s pos).1 = R := ⟨_, rfl⟩
        obtain ⟨K, hK⟩ : ∃ K, (Utf8.decode s pos).2 = K := ⟨_, rfl⟩
        rw [hR, hK] at hnx
        rw [hR] at hal' hle
        have hit2 := Lib.iterAt_heap wr w.heap.size s pos (pos + K) hit
        have hbw2 := Lib.below_iterAt hbw (k := w.heap.size) (Nat.le_refl _) s (pos + K)
        obtain ⟨W, hWd⟩ : ∃ W, wr.iterAt w.heap.size s (pos + K) = W := ⟨_, rfl⟩
        rw [hWd] at hnx hit2 hbw2
        have hc := odd_any R W hle
        rw [hal'] at hc
        have Hc := hide hc
        have Hnot := hide hnot
        have Hbw := hide hbw2
        clear hc hnot hbw2
        clear hWd hg hal hall hit hbw hit2 hR hK hal'
        go_wp2_with fail
        refine Hc.out.mono ?_
        rintro e W' ⟨rfl, hbc⟩
        have Hbc := hide hbc
        clear hbc
        go_wp2
        go_ret
        exact ⟨⟨pos, rfl, by rw [Hnot.out]; simp⟩, Hbw.out.trans (Hbc.out.mono Hbw.out.size)⟩
    · have hnx : ∀ ty, (Instr.next (.pointer (some ⟨w.heap.size, 0, none⟩)) true ty).run Try.prog wr = _ := fun ty => Lib.run_next_end_at wr w.heap.size s pos ty hit hps
      have hyes : (s.data.toList.all fun b => isAl b.toNat) = true := by
        rw [List.all_eq_true]
        intro b hb
        obtain ⟨j, hj⟩ := List.getElem?_of_mem hb
        have : j < s.size := by have := (List.getElem?_eq_some_iff.1 hj).1; simpa using this
        exact hall j (by omega) b hj
      have Hyes := hide hyes
      have Hbw := hide hbw
      clear hyes hbw
      clear hall hit
      go_wp2
      go_ret
      exact ⟨⟨-1, rfl, by rw [Hyes.out]; rfl⟩, Hbw.out⟩
end Go.Proofs.Ytllpffkifleigaa
end
section
namespace Go.Proofs.Ytllpffkifleigaa
open Go Go.RowKit

theorem IndexFunc_any (s : ByteArray) (w : World) :
    Calls Try.prog 132 #[.string s, .func (.func 125) #[] #[]] w fun e w' => (∃ i : Int, e = .returned (.int .i64 i) ∧ decide (0 ≤ i) = !(s.data.toList.all fun b => isAl b.toNat)) ∧ Below w.heap.size w w' := by
  have hi := fun W => indexFunc_any s W
  have Hi := hide hi
  clear hi
  go_enter Try.func132, Try.ntmps132
  have HB := hide (Below.refl w.heap.size w)
  go_wp2_with fail
  refine (Hi.out _).mono ?_
  rintro e w1 ⟨⟨i, rfl, hd⟩, hb⟩
  replace HB := hide (onward HB.out hb)
  clear hb
  have Hd := hide hd
  clear hd
  go_wp2
  go_ret
  exact ⟨⟨i, rfl, Hd.out⟩, HB.out⟩
theorem ContainsFunc_any (s : ByteArray) (w : World) :
    Calls Try.prog 124 #[.string s, .func (.func 125) #[] #[]] w fun e w' => e = .returned (.bool (!(s.data.toList.all fun b => isAl b.toNat))) ∧ Below w.heap.size w w' := by
  have hi := fun W => IndexFunc_any s W
  have Hi := hide hi
  clear hi
  go_enter Try.func124, Try.ntmps124
  have HB := hide (Below.refl w.heap.size w)
  go_wp2_with fail
  refine (Hi.out _).mono ?_
  rintro e w1 ⟨⟨i, rfl, hd⟩, hb⟩
  replace HB := hide (onward HB.out hb)
  clear hb
  have Hd := hide hd
  clear hd
  go_wp2
  go_ret
  exact ⟨by rw [← Hd.out]; rfl, HB.out⟩
theorem empty_of (s : ByteArray) (h : s.size = 0) : s = ⟨#[]⟩ := by
  obtain ⟨a⟩ := s
  congr
  exact Array.eq_empty_of_size_eq_zero h
theorem get0 (s : ByteArray) (h : 0 < s.size) : s.data.toList.getD 0 0 = s[0]'h := by
  have := get_toList s 0 h
  simp [List.getD, this]
set_option maxHeartbeats 1000000 in
theorem Name_any (s : ByteArray) (w : World) (hs : s.size ≤ 9223372036854775807) :
    Calls Try.prog 106 #[.string s] w fun e w' => e = .returned (.bool (nameB s)) ∧ Below w.heap.size w w' := by
  by_cases h0 : s.size = 0
  · obtain rfl := empty_of s h0
    have e : nameB ⟨#[]⟩ = false := rfl
    rw [e]
    clear h0 hs e
    go_enter Try.func106, Try.ntmps106
    go_wp2
    go_ret
    exact ⟨rfl, Below.refl _ _⟩
  · have hpos : 0 < s.size := by omega
    have hne : s.toList.isEmpty = false := by
      rw [Lib.toList_data]
      cases h : s.data.toList with
      | nil => have : s.data.toList.length = s.size := by simp
               rw [h] at this; simp at this; omega
      | cons a l => rfl
    have hne2 : ¬ s.toList = [] := fun h => by rw [h] at hne; cases hne
    have hi := fun W => ContainsFunc_any s W
    have hB : nameB s = (decide (s.size ≤ 12) && decide (97 ≤ (s[0]'hpos).toNat) && decide ((s[0]'hpos).toNat ≤ 122) && s.data.toList.all fun b => isAl b.toNat) := by
      unfold nameB
      rw [get0 s hpos, decide_eq_true (show s.size ≠ 0 from h0), Bool.true_and]
    generalize (s.data.toList.all fun b => isAl b.toNat) = r at *
    have Hi := hide hi
    have HBn := hide hB
    clear hi hB
    by_cases h1 : (s.size : Int) ≤ 12
    · by_cases h2 : (97 : Int) ≤ ((s[0]'hpos).toNat : Int)
      · by_cases h3 : ((s[0]'hpos).toNat : Int) ≤ 122
        · go_enter Try.func106, Try.ntmps106
          have HB := hide (Below.refl w.heap.size w)
          go_wp2_with fail
          refine (Hi.out _).mono ?_
          rintro e w1 ⟨rfl, hb⟩
          replace HB := hide (onward HB.out hb)
          clear hb
          go_wp2
          go_ret
          exact ⟨by rw [HBn.out, decide_eq_true (show s.size ≤ 12 by omega), decide_eq_true (show 97 ≤ (s[0]'hpos).toNat by omega), decide_eq_true (show (s[0]'hpos).toNat ≤ 122 by omega)]; simp, HB.out⟩
        · go_enter Try.func106, Try.ntmps106
          go_wp2
          go_ret
          exact ⟨by rw [HBn.out, decide_eq_false (show ¬ (s[0]'hpos).toNat ≤ 122 by omega)]; simp, Below.refl _ _⟩
      · go_enter Try.func106, Try.ntmps106
        go_wp2
        go_ret
        exact ⟨by rw [HBn.out, decide_eq_false (show ¬ 97 ≤ (s[0]'hpos).toNat by omega)]; simp, Below.refl _ _⟩
    · go_enter Try.func106, Try.ntmps106
      go_wp2
      go_ret
      exact ⟨by rw [HBn.out, decide_eq_false (show ¬ s.size ≤ 12 by omega)]; simp, Below.refl _ _⟩
theorem isAl_cases {n : Nat} (h : isAl n = true) : ((97 : Int) ≤ n ∧ (n : Int) ≤ 122) ∨ ((48 : Int) ≤ n ∧ (n : Int) ≤ 57) ∨ n = 95 := by
  unfold isAl at h
  simp only [Bool.or_eq_true, Bool.and_eq_true, decide_eq_true_eq] at h
  omega
theorem isAl_not {n : Nat} (h : ¬ isAl n = true) : ¬ (97 ≤ n ∧ n ≤ 122) ∧ ¬ (48 ≤ n ∧ n ≤ 57) ∧ n ≠ 95 := by
  unfold isAl at h
  simp only [Bool.or_eq_true, Bool.and_eq_true, decide_eq_true_eq] at h
  omega
set_option maxHeartbeats 1000000 in
set_option maxRecDepth 100000 in
theorem RefName_any (s : ByteArray) (w : World) (hs : s.size ≤ 9223372036854775807) :
    Calls Try.prog 107 #[.string s] w fun e w' => e = .returned (.bool (nameB s)) ∧ w = w' := by
  by_cases h0 : s.size = 0
  · obtain rfl := empty_of s h0
    have e : nameB ⟨#[]⟩ = false := rfl
    rw [e]
    clear h0 hs e
    go_enter Try.func107, Try.ntmps107
    go_wp2
    go_ret
    exact ⟨rfl, rfl⟩
  · have hpos : 0 < s.size := by omega
    have h00 : ¬ (s.size : Int) < 1 := by omega
    have hB : nameB s = (decide (s.size ≤ 12) && decide (97 ≤ (s[0]'hpos).toNat) && decide ((s[0]'hpos).toNat ≤ 122) && s.data.toList.all fun b => isAl b.toNat) := by
      unfold nameB
      rw [get0 s hpos, decide_eq_true (show s.size ≠ 0 from h0), Bool.true_and]
    have HBn := hide hB
    clear hB
    by_cases h1 : (12 : Int) < s.size
    · go_enter Try.func107, Try.ntmps107
      go_wp2
      go_ret
      exact ⟨by rw [HBn.out, decide_eq_false (show ¬ s.size ≤ 12 by omega)]; simp, rfl⟩
    by_cases h2 : ((s[0]'hpos).toNat : Int) < 97
    · go_enter Try.func107, Try.ntmps107
      go_wp2
      go_ret
      exact ⟨by rw [HBn.out, decide_eq_false (show ¬ 97 ≤ (s[0]'hpos).toNat by omega)]; simp, rfl⟩
    by_cases h3 : (122 : Int) < ((s[0]'hpos).toNat : Int)
    · go_enter Try.func107, Try.ntmps107
      go_wp2
      go_ret
      exact ⟨by rw [HBn.out, decide_eq_false (show ¬ (s[0]'hpos).toNat ≤ 122 by omega)]; simp, rfl⟩
    have hB2 : nameB s = s.data.toList.all fun b => isAl b.toNat := by
      rw [HBn.out, decide_eq_true (show s.size ≤ 12 by omega), decide_eq_true (show 97 ≤ (s[0]'hpos).toNat by omega), decide_eq_true (show (s[0]'hpos).toNat ≤ 122 by omega)]
      simp
    have HB2 := hide hB2
    clear hB2
    clear HBn
    go_enter Try.func107, Try.ntmps107
    go_wp2
    go_loop [3] (fun i => ∃ k : Nat, k ≤ s.size ∧ i = .int .i64 k ∧ Hid (∀ j, j < k → ∀ b, s.data.toList[j]? = some b → isAl b.toNat = true)) (fun i => s.size - (intOf i).toNat)
    case atStart => exact ⟨0, by omega, rfl, fun j hj => by omega⟩
    case round =>
      obtain ⟨k, hk, rfl, hall⟩ := hrel
      by_cases hlt : k < s.size
      · have hg := get_toList s k hlt
        have hlt' : (k : Int) < s.size := by omega
        by_cases hal : isAl (s[k]'hlt).toNat = true
        · have hall2 : ∀ j, j < k + 1 → ∀ b, s.data.toList[j]? = some b → isAl b.toNat = true := fun j hj b hb => by
            by_cases h : j < k
            · exact hall j h b hb
            · obtain rfl : j = k := by omega
              rw [hg] at hb
              rw [← Option.some.inj hb]; exact hal
          have Hall := hide hall2
          clear hall2
          have hcs := isAl_cases hal
          clear hal hg hall
          rcases hcs with ⟨c1, c2⟩ | ⟨c1, c2⟩ | c1
          · have d1 : ¬ ((s[k]'hlt).toNat : Int) < 97 := by omega
            have d2 : ¬ (122 : Int) < ((s[k]'hlt).toNat : Int) := by omega
            go_wp2
            go_round
            case rel => exact ⟨k + 1, by omega, by go_num, Hall.out⟩
            case measure => simp [intOf]; omega
          · have d1 : ((s[k]'hlt).toNat : Int) < 97 := by omega
            have d2 : ¬ ((s[k]'hlt).toNat : Int) < 48 := by omega
            have d3 : ¬ (57 : Int) < ((s[k]'hlt).toNat : Int) := by omega
            go_wp2
            go_round
            case rel => exact ⟨k + 1, by omega, by go_num, Hall.out⟩
            case measure => simp [intOf]; omega
          · have d0 : ((s[k]'hlt).toNat : Int) = 95 := by omega
            clear c1
            go_wp2
            go_round
            case rel => exact ⟨k + 1, by omega, by go_num, Hall.out⟩
            case measure => simp [intOf]; omega
        · have hnot : nameB s = false := by
            rw [HB2.out, List.all_eq_false]
            exact ⟨s[k]'hlt, List.mem_of_getElem? hg, hal⟩
          obtain ⟨c1, c2, c3⟩ := isAl_not hal
          have c4 : (((s[k]'hlt).toNat : Int) != 95) = true := by simp; omega
          have c5 : (((s[k]'hlt).toNat : Int) == 95) = false := by simp; omega
          have Hnot := hide hnot
          clear hnot
          clear hal hg hall
          have h4 : ((s[k]'hlt).toNat : Int) < 48 ∨ ((57 : Int) < ((s[k]'hlt).toNat : Int) ∧ ((s[k]'hlt).toNat : Int) < 97) ∨ (122 : Int) < ((s[k]'hlt).toNat : Int) := by omega
          clear c1 c2 c3
          rcases h4 with h4 | ⟨h4, h5⟩ | h4
          · have d1 : ((s[k]'hlt).toNat : Int) < 97 := by omega
            go_wp2
            go_ret
            exact ⟨by rw [Hnot.out]; rfl, rfl⟩
          · have d1 : ¬ ((s[k]'hlt).toNat : Int) < 48 := by omega
            go_wp2
            go_ret
            exact ⟨by rw [Hnot.out]; rfl, rfl⟩
          · have d1 : ¬ ((s[k]'hlt).toNat : Int) < 97 := by omega
            have d2 : ¬ ((s[k]'hlt).toNat : Int) < 48 := by omega
            have d3 : (57 : Int) < ((s[k]'hlt).toNat : Int) := by omega
            go_wp2
            go_ret
            exact ⟨by rw [Hnot.out]; rfl, rfl⟩
      · have hyes : nameB s = true := by
          rw [HB2.out, List.all_eq_true]
          intro b hb
          obtain ⟨j, hj⟩ := List.getElem?_of_mem hb
          have : j < s.size := by have := (List.getElem?_eq_some_iff.1 hj).1; simpa using this
          exact hall j (by omega) b hj
        have Hyes := hide hyes
        clear hyes
        clear hall
        go_wp2
        go_ret
        exact ⟨by rw [Hyes.out]; rfl, rfl⟩
end Go.Proofs.Ytllpffkifleigaa
end
section
namespace Go.Proofs.Ytllpffkifleigaa
open Go Go.RowKit

def gridE (x y sz wi hi : Int) : Int := if (winBQ x (-1048576) 1048576 && winBQ y (-1048576) 1048576 && winBQ sz 1 10000 && winBQ wi 1 64 && winBQ hi 1 64) = true then 0 else 3
theorem gridE_ok {x y sz wi hi : Int} (h : gridE x y sz wi hi = 0) : -1048576 ≤ x ∧ x ≤ 1048576 ∧ -1048576 ≤ y ∧ y ≤ 1048576 ∧ 1 ≤ sz ∧ sz ≤ 10000 ∧ 1 ≤ wi ∧ wi ≤ 64 ∧ 1 ≤ hi ∧ hi ≤ 64 := by
  unfold gridE at h
  split at h
  · rename_i h2
    simp only [Bool.and_eq_true, winB_iff] at h2
    omega
  · omega
def okS (most : Int) (p : Int × Int) : Bool := decide (0 ≤ p.1 ∧ p.1 ≤ p.2 ∧ p.2 ≤ most)
def fieldE (ge : Int) (n : Nat) (wi hi : Int) (l : List (Int × Int)) (most : Int) : Int := if ge ≠ 0 then ge else if (n : Int) ≠ wi * hi then 11 else if l.all (okS most) = true then 0 else 3
def gridV (x y sz wi hi : Int) : Value := .agg #[.int .i64 x, .int .i64 y, .int .i64 sz, .int .i64 wi, .int .i64 hi]
def fieldV (x y sz wi hi : Int) (A : Option Addr) (n c : Nat) : Value := .agg #[.int .i64 x, .int .i64 y, .int .i64 sz, .int .i64 wi, .int .i64 hi, .slice A n c]
theorem Blk.c5 {w : World} {g : Nat} {t : TypeId} {a0 a1 a2 a3 a4 : Value} (h : Blk w g t #[a0, a1, a2, a3, a4]) : w.cell? ⟨g, 0, none⟩ = some a0 ∧ w.cell? ⟨g, 1, none⟩ = some a1 ∧ w.cell? ⟨g, 2, none⟩ = some a2 ∧ w.cell? ⟨g, 3, none⟩ = some a3 ∧ w.cell? ⟨g, 4, none⟩ = some a4 :=
  ⟨h.c 0 rfl, h.c 1 rfl, h.c 2 rfl, h.c 3 rfl, h.c 4 rfl⟩
theorem Blk.c6 {w : World} {g : Nat} {t : TypeId} {a0 a1 a2 a3 a4 a5 : Value} (h : Blk w g t #[a0, a1, a2, a3, a4, a5]) : w.cell? ⟨g, 0, none⟩ = some a0 ∧ w.cell? ⟨g, 1, none⟩ = some a1 ∧ w.cell? ⟨g, 2, none⟩ = some a2 ∧ w.cell? ⟨g, 3, none⟩ = some a3 ∧ w.cell? ⟨g, 4, none⟩ = some a4 ∧ w.cell? ⟨g, 5, none⟩ = some a5 :=
  ⟨h.c 0 rfl, h.c 1 rfl, h.c 2 rfl, h.c 3 rfl, h.c 4 rfl, h.c 5 rfl⟩

set_option maxHeartbeats 2000000 in
set_option maxRecDepth 100000 in
theorem RefCheckSite_any (s : ByteArray) (x y z r g st wd : Int) (w : World) (hs : s.size ≤ 9223372036854775807) :
    Calls Try.prog 91 #[siteV s x y z r g st wd] w fun e w' => e = .returned (.int .i64 (siteE (nameB s) x y z r g st wd)) ∧ Below w.heap.size w w' := by
  have hnm := fun W => RefName_any s W hs
  unfold siteV
  generalize nameB s = nb at *
  have Hnm := hide hnm
  clear hnm hs
  cases nb with
  | true =>
    go_enter Try.func91, Try.ntmps91
    have HB := hide (Below.refl w.heap.size w)
    go_wp2_with fail
    refine at_world fun W hW => ?_
    have bq0 : Blk W w.heap.size 83 #[.string s, .int .i64 x, .int .i64 y, .int .i64 z, .int .i64 r, .int .i64 g, .int .i64 st, .int .i64 wd] := by rw [hW]; exact Blk.new _ _ _
    have LW : Later w W := by rw [hW]; exact ((Below.refl _ _).alloc (Nat.le_refl _) _)
    have szW : W.heap.size = w.heap.size + 1 := by rw [hW]; simp
    clear hW
    replace HB := hide (onward HB.out LW)
    have Hs := hide bq0
    clear bq0 LW szW
    refine (Hnm.out _).mono ?_
    rintro e w' ⟨rfl, rfl⟩
    obtain ⟨q0, q1, q2, q3, q4, q5, q6, q7⟩ := Hs.out.site8
    have lts := Hs.out.lt
    go_wp2_with (go_at_call 60; refine (In_any _ _ _ _).mono ?_; rintro e w' ⟨rfl, rfl⟩)
    all_goals
      go_ret
      simp only [Bool.not_eq_true', Bool.not_eq_false'] at *
      refine ⟨ret_int ?_, HB.out⟩
      first | (simp [siteE, *]; done) | (exfalso; clear Hnm HB Hs q0 q1 q2 q3 q4 q5 q6 q7; simp_all; done)
  | false =>
    go_enter Try.func91, Try.ntmps91
    have HB := hide (Below.refl w.heap.size w)
    go_wp2_with fail
    refine at_world fun W hW => ?_
    have bq0 : Blk W w.heap.size 83 #[.string s, .int .i64 x, .int .i64 y, .int .i64 z, .int .i64 r, .int .i64 g, .int .i64 st, .int .i64 wd] := by rw [hW]; exact Blk.new _ _ _
    have LW : Later w W := by rw [hW]; exact ((Below.refl _ _).alloc (Nat.le_refl _) _)
    have szW : W.heap.size = w.heap.size + 1 := by rw [hW]; simp
    clear hW
    replace HB := hide (onward HB.out LW)
    have Hs := hide bq0
    clear bq0 LW szW
    refine (Hnm.out _).mono ?_
    rintro e w' ⟨rfl, rfl⟩
    go_wp2
    go_ret
    exact ⟨ret_int (by simp [siteE]), HB.out⟩
end Go.Proofs.Ytllpffkifleigaa
end
section
namespace Go.Proofs.Ytllpffkifleigaa
open Go Go.RowKit

def flat2 : List (Int × Int) → List Int
  | [] => []
  | p :: l => p.1 :: p.2 :: flat2 l
theorem flat2_length : ∀ l : List (Int × Int), (flat2 l).length = l.length * 2
  | [] => rfl
  | p :: l => by simp [flat2, flat2_length l]; omega
theorem flat2_get : ∀ (l : List (Int × Int)) (k : Nat), k < l.length → (flat2 l).getD (k * 2) 0 = (l.getD k (0, 0)).1 ∧ (flat2 l).getD (k * 2 + 1) 0 = (l.getD k (0, 0)).2
  | [], k, h => by simp at h
  | p :: l, 0, _ => ⟨rfl, rfl⟩
  | p :: l, k + 1, h => by
    have := flat2_get l k (by simpa using h)
    rw [show (k + 1) * 2 = k * 2 + 1 + 1 by omega]
    simpa [flat2, List.getD] using this
/-- A list of pairs, read. -/
theorem Ints.pt {w : World} {B : Nat} {A : Option Addr} {l : List (Int × Int)} (h : Ints w B .i64 A (flat2 l)) (hl : 0 < l.length) : ∃ b off, A = some ⟨b, off, none⟩ ∧ b < B ∧ ∀ k, k < l.length → w.cell? ⟨b, off + k * 2, none⟩ = some (.int .i64 (l.getD k (0, 0)).1) ∧ w.cell? ⟨b, off + k * 2 + 1, none⟩ = some (.int .i64 (l.getD k (0, 0)).2) := by
  obtain ⟨b, off, e, hb, hc⟩ := h (by rw [flat2_length]; omega)
  refine ⟨b, off, e, hb, fun k hk => ?_⟩
  obtain ⟨h1, h2⟩ := flat2_get l k hk
  rw [← h1, ← h2]
  exact ⟨hc _ (by rw [flat2_length]; omega), by have := hc (k * 2 + 1) (by rw [flat2_length]; omega); rwa [show off + (k * 2 + 1) = off + k * 2 + 1 by omega] at this⟩
theorem all_okS {l : List (Int × Int)} {most : Int} (h : ∀ j, j < l.length → okS most (l.getD j (0, 0)) = true) : l.all (okS most) = true := by
  rw [List.all_eq_true]
  intro x hx
  obtain ⟨j, hj, rfl⟩ := List.mem_iff_getElem.1 hx
  have := h j hj
  simpa [List.getD, hj] using this
theorem not_all_okS {l : List (Int × Int)} {most : Int} {j : Nat} (hj : j < l.length) (h : okS most (l.getD j (0, 0)) = false) : l.all (okS most) = false := by
  rw [List.all_eq_false]
  refine ⟨l[j], List.getElem_mem hj, ?_⟩
  have e : l.getD j (0, 0) = l[j] := by simp [List.getD, hj]
  rw [← e, h]
  simp

theorem Valid_any (a b lo hi : Int) (w : World) :
    Calls Try.prog 87 #[.agg #[.int .i64 a, .int .i64 b], .int .i64 lo, .int .i64 hi] w fun e w' => e = .returned (.bool (decide (lo ≤ a ∧ a ≤ b ∧ b ≤ hi))) ∧ Below w.heap.size w w' := by
  by_cases h1 : a ≤ b <;> by_cases h2 : lo ≤ a <;> by_cases h3 : b ≤ hi
  all_goals
    go_enter Try.func87, Try.ntmps87
    go_wp2
    go_ret
    exact ⟨by simp [*], (Below.refl _ _).alloc (Nat.le_refl _) _⟩
end Go.Proofs.Ytllpffkifleigaa
end
section
namespace Go.Proofs.Ytllpffkifleigaa
open Go.RowKit

end Go.Proofs.Ytllpffkifleigaa
end
section
namespace Go.Proofs.Ytllpffkifleigaa
open Go.RowKit

end Go.Proofs.Ytllpffkifleigaa
end
section
namespace Go.Proofs.Ytllpffkifleigaa
open Go.RowKit

end Go.Proofs.Ytllpffkifleigaa
end
section
namespace Go.Proofs.Ytllpffkifleigaa
open Go.RowKit

theorem nm_any (s : ByteArray) (hs : s.size ≤ 9223372036854775807) : ∀ W, Calls Try.prog 106 #[.string s] W fun e w' => e = .returned (.bool (nameB s)) ∧ Below W.heap.size W w' := fun W => Name_any s W hs

end Go.Proofs.Ytllpffkifleigaa
end
section
namespace Go.Proofs.Ytllpffkifleigaa
open Go Go.RowKit

set_option maxHeartbeats 1000000 in
theorem border_any (s : ByteArray) (x y z r g st wd t c2 j : Int) (gs gx : Nat) (w : World) (hq : Blk w gs 83 #[.string s, .int .i64 x, .int .i64 y, .int .i64 z, .int .i64 r, .int .i64 g, .int .i64 st, .int .i64 wd]) (hx : Blk w gx 156 #[.int .i64 (262144 - t * t), .int .i64 c2, .int .i64 (262144 + t * t)])
    (h1 : 0 ≤ st) (h1' : st ≤ 2000) (h2 : 0 ≤ t) (h3 : t ≤ 256) (h4 : 0 ≤ j) (h5 : j ≤ 200) :
    Calls Try.prog 128 #[.int .i64 j, .pointer (some ⟨gs, 0, none⟩), .pointer (some ⟨gx, 0, none⟩)] w fun e w' => e = .returned (.int .i64 (bord st t j)) ∧ w = w' := by
  obtain ⟨b1, b2, b3, b4, b5, b6⟩ := bord_bd h1 h1' h2 h3 h4 h5
  obtain ⟨t1, t2⟩ := tilt_bd (show -8 ≤ t by omega) (show t ≤ 264 by omega)
  have hB : bord st t j = j * st * (262144 - t * t) / (262144 + t * t) := rfl
  have lts := hq.lt
  have ltx := hx.lt
  obtain ⟨q0, q1, q2, q3, q4, q5, q6, q7⟩ := hq.site8
  obtain ⟨x0, x1, x2⟩ := hx.c3
  have hd : (262144 + t * t) ≠ 0 := by omega
  have hd2 : 0 < 262144 + t * t := by omega
  rw [hB]
  clear hB hq hx b5 b6
  go_enter Try.func128, Try.ntmps128
  go_wp2
  go_ret
  exact ⟨rfl, rfl⟩
set_option maxHeartbeats 2000000 in
set_option maxRecDepth 100000 in
theorem gate_any (s : ByteArray) (x y z r g st wd t v : Int) (w : World) (h1 : 0 ≤ st) (h1' : st ≤ 2000) (h2 : 0 ≤ t) (h3 : t ≤ 256) (h4 : 1 ≤ g) (h5 : g ≤ 200) (v0 : 0 ≤ v) (v1 : v ≤ 1000000000000000) :
    Calls Try.prog 110 #[siteV s x y z r g st wd, .int .i64 t, .int .i64 v] w fun e w' => e = .returned (.int .i64 (gateZ st t g v)) ∧ Below w.heap.size w w' := by
  have hs := fun W => slantOf_any t W (by omega) (by omega)
  unfold vecV slantV at hs
  simp only at hs
  unfold siteV
  have hbo := fun (j : Int) (h4 : 0 ≤ j) (h5 : j ≤ 200) => bord_bd (j := j) h1 h1' h2 h3 h4 h5
  have hno := gate_no (st := st) (t := t) (g := g) (w := v) h1 h2 h3
  have hyes : ∀ j, 0 ≤ j → j < g → bord st t j * bord st t j ≤ v → v < bord st t (j + 1) * bord st t (j + 1) → gateZ st t g v = j := fun j a b c d => gate_is h1 h2 h3 a b (by unfold gateB; rw [decide_eq_true c, decide_eq_true d]; rfl)
  have hz : bord st t 0 = 0 := by unfold bord; simp
  have hcl := fun (j : Int) (gs gx : Nat) (W : World) hq hx h4 h5 => border_any s x y z r g st wd t (1024 * t) j gs gx W hq hx h1 h1' h2 h3 h4 h5
  generalize hG : gateZ st t g v = res at *
  clear hG
  have Hs := hide hs
  have Hbo := hide hbo
  have Hno := hide hno
  have Hyes := hide hyes
  have Hz := hide hz
  have Hcl := hide hcl
  clear hs hbo hno hyes hz hcl
  go_enter Try.func110, Try.ntmps110
  have HB := hide (Below.refl w.heap.size w)
  go_wp2_with fail
  refine at_world fun W hW => ?_
  have bq0 : Blk W w.heap.size 83 #[.string s, .int .i64 x, .int .i64 y, .int .i64 z, .int .i64 r, .int .i64 g, .int .i64 st, .int .i64 wd] := by rw [hW]; exact Blk.new _ _ _
  have LW : Later w W := by rw [hW]; exact ((Below.refl _ _).alloc (Nat.le_refl _) _)
  have szW : W.heap.size = w.heap.size + 1 := by rw [hW]; simp
  clear hW
  replace HB := hide (onward HB.out LW)
  have Hq := hide bq0
  clear bq0 LW szW
  refine (Hs.out _).mono ?_
  rintro e w1 ⟨rfl, hb⟩
  replace HB := hide (onward HB.out hb)
  replace Hq := hide (blk_later Hq.out hb)
  clear hb
  obtain ⟨q0, q1, q2, q3, q4, q5, q6, q7⟩ := Hq.out.site8
  have lts := Hq.out.lt
  go_wp2_with fail
  clear q0 q1 q2 q3 q4 q5 q6 q7 lts
  refine at_world fun W1 hW => ?_
  have bq0 : Blk W1 w1.heap.size 156 #[.int .i64 (262144 - t * t), .int .i64 (1024 * t), .int .i64 (262144 + t * t)] := by rw [hW]; exact Blk.new _ _ _
  have LW : Later w1 W1 := by rw [hW]; exact ((Below.refl _ _).alloc (Nat.le_refl _) _)
  have szW : W1.heap.size = w1.heap.size + 1 := by rw [hW]; simp
  clear hW
  replace HB := hide (onward HB.out LW)
  replace Hq := hide (blk_later Hq.out LW)
  have Hx := hide bq0
  clear bq0 LW szW
  refine (Hcl.out g _ _ _ Hq.out Hx.out (by omega) (by omega)).mono ?_
  rintro e w' ⟨rfl, rfl⟩
  obtain ⟨-, -, -, -, bg0, bg1⟩ := Hbo.out g (by omega) (by omega)
  have sqg : 0 ≤ bord st t g * bord st t g ∧ bord st t g * bord st t g ≤ 160000000000 := by
    have := mul_bdB bg0 bg1 bg0 bg1; omega
  have hno := Hno.out
  generalize hbg : bord st t g = bg at *
  have Hbg := hide hbg
  clear hbg
  by_cases hw : bg * bg ≤ v
  · have hr := hno hw
    have Hr := hide hr
    clear hr
    clear hno
    go_wp2
    go_ret
    exact ⟨by rw [Hr.out]; rfl, HB.out⟩
  · clear hno
    go_wp2_with fail
    obtain ⟨q0, q1, q2, q3, q4, q5, q6, q7⟩ := Hq.out.site8
    have lts := Hq.out.lt
    apply wp_region_L (w0 := W1) [[], [], [], []] [true, true, true, true] [] (fun ixq y => match ixq with  | _ => undef) (fun ixq x F wq => match ixq with  | _ => True) (fun a x => a) (by kernel_rfl) (by kernel_rfl) (fun _ => rfl) [] (by kernel_rfl)
    · intro x D hD
      have hne := hD.some
      have k5 := liftB hD q5 (by first | assumption | omega)
      simp only [takeOps, Act.put, List.setIfInBounds_toArray, List.set_cons_succ, List.set_cons_zero]
      repeat (go_big_quiet_step (fail))
      exact wpQuiet_nil rfl
    · exact fun _ h => absurd h (by simp)
    · exact trivial
    · exact trivial
    intro xx w3 F hL hlv1
    clear hlv1
    clear q0 q1 q2 q3 q4 q5 q6 q7 lts
    replace HB := hide (onward HB.out hL)
    replace Hq := hide (blk_later Hq.out hL)
    replace Hx := hide (blk_later Hx.out hL)
    clear hL
    go_wp2_with fail
    go_loop [10, 11] (fun lo hi => ∃ a b : Int, 0 ≤ a ∧ a < b ∧ b ≤ g ∧ lo = .int .i64 a ∧ hi = .int .i64 b ∧ bord st t a * bord st t a ≤ v ∧ v < bord st t b * bord st t b) (fun lo hi => (intOf hi - intOf lo).toNat)
    case atStart => exact ⟨0, g, by omega, by omega, by omega, rfl, rfl, by rw [Hz.out]; simpa using v0, by rw [Hbg.out]; omega⟩
    case round =>
      obtain ⟨a, b, a0, ab, bn, rfl, rfl, ha, hb⟩ := hrel
      have Ha := hide ha
      have Hb := hide hb
      clear ha hb
      by_cases hlt : 1 < b - a
      · obtain ⟨m, hm⟩ : ∃ m : Int, (a + b) / 2 = m := ⟨_, rfl⟩
        have m0 : a < m := by omega
        have m1 : m < b := by omega
        obtain ⟨-, -, -, -, bm0, bm1⟩ := Hbo.out m (by omega) (by omega)
        have sqm : 0 ≤ bord st t m * bord st t m ∧ bord st t m * bord st t m ≤ 160000000000 := by
          have := mul_bdB bm0 bm1 bm0 bm1; omega
        have hc := fun W hq hx => Hcl.out m w.heap.size w1.heap.size W hq hx (by omega) (by omega)
        generalize hbm : bord st t m = bm at *
        have Hbm := hide hbm
        clear hbm
        have cc := hc w3 Hq.out Hx.out
        have CC := hide cc
        clear cc
        clear hc
        by_cases hle : bm * bm ≤ v
        · go_wp2_with (go_at_call 128; refine CC.out.mono ?_; rintro e w' ⟨rfl, rfl⟩)
          go_round
          case rel => exact ⟨m, b, by omega, by omega, by omega, rfl, rfl, by rw [Hbm.out]; exact hle, Hb.out⟩
          case measure => simp [intOf]; omega
        · go_wp2_with (go_at_call 128; refine CC.out.mono ?_; rintro e w' ⟨rfl, rfl⟩)
          go_round
          case rel => exact ⟨a, m, by omega, by omega, by omega, rfl, rfl, Ha.out, by rw [Hbm.out]; omega⟩
          case measure => simp [intOf]; omega
      · obtain rfl : b = a + 1 := by omega
        have hr := Hyes.out a a0 (by omega) Ha.out Hb.out
        have Hr := hide hr
        clear hr
        go_wp2
        go_ret
        exact ⟨by rw [Hr.out]; rfl, HB.out⟩
end Go.Proofs.Ytllpffkifleigaa
end
section
namespace Go.Proofs.Ytllpffkifleigaa
open Go Go.RowKit

/-- The gate to which a place (relative to the site) belongs. -/
def findZ (ro st t g dx dy : Int) : (Int × Int) × Bool :=
  if dx = 0 ∧ dy = 0 then ((0, 0), true) else if gateZ st t g (dx * dx + dy * dy) < 0 then ((0, 0), false) else ((rayZ ro dx dy, gateZ st t g (dx * dx + dy * dy)), true)
def findR (e t ro st g sx sy x y : Int) : (Int × Int) × Int :=
  if e ≠ 0 then ((0, 0), e) else if (winBQ t 0 256 && winBQ x (-4194304) 4194304 && winBQ y (-4194304) 4194304) = true then
    (if (findZ ro st t g (x - sx) (y - sy)).2 = true then ((findZ ro st t g (x - sx) (y - sy)).1, 0) else ((0, 0), 29)) else ((0, 0), 3)
def twoE (p : (Int × Int) × Int) : Value := .tuple #[.int .i64 p.1.1, .int .i64 p.1.2, .int .i64 p.2]
theorem sq_pos {d : Int} (h : -5300000 ≤ d ∧ d ≤ 5300000) : 0 ≤ d * d ∧ d * d ≤ 28090000000000 := by
  have := mul_bdB (a := d) (b := d) (A := 5300000) (B := 5300000)
  by_cases c : 0 ≤ d
  · have := this c h.2 c h.2; omega
  · have := mul_bdB (a := -d) (b := -d) (A := 5300000) (B := 5300000) (by omega) (by omega) (by omega) (by omega)
    rw [Int.neg_mul_neg] at this; omega

set_option maxHeartbeats 2000000 in
set_option maxRecDepth 100000 in
theorem find_any (s : ByteArray) (sx sy z ro g st wd t x y : Int) (w : World) (h1 : 0 ≤ st) (h1' : st ≤ 2000) (h2 : 0 ≤ t) (h3 : t ≤ 256) (h4 : 1 ≤ g) (h5 : g ≤ 200) (r1 : 1 ≤ ro) (r2 : ro ≤ 90)
    (X1 : -5300000 ≤ x - sx ∧ x - sx ≤ 5300000) (Y1 : -5300000 ≤ y - sy ∧ y - sy ≤ 5300000) :
    Calls Try.prog 94 #[siteV s sx sy z ro g st wd, .int .i64 t, .int .i64 x, .int .i64 y] w fun e w' => e = .returned (.tuple #[.int .i64 (findZ ro st t g (x - sx) (y - sy)).1.1, .int .i64 (findZ ro st t g (x - sx) (y - sy)).1.2, .bool (findZ ro st t g (x - sx) (y - sy)).2]) ∧ Below w.heap.size w w' := by
  obtain ⟨dx, hdx⟩ : ∃ d, x - sx = d := ⟨_, rfl⟩
  obtain ⟨dy, hdy⟩ := (⟨_, rfl⟩ : ∃ d, y - sy = d)
  have hx3 := X1.1
  have hx4 := X1.2
  have hy3 := Y1.1
  have hy4 := Y1.2
  rw [hdx, hdy]
  rw [hdx] at X1
  rw [hdy] at Y1
  obtain ⟨u1, u2⟩ := sq_pos X1
  obtain ⟨v1, v2⟩ := sq_pos Y1
  have hg := fun W => gate_any s sx sy z ro g st wd t (dx * dx + dy * dy) W h1 h1' h2 h3 h4 h5 (by omega) (by omega)
  have hr := fun W h0 => ray_any ro dx dy W r1 (by omega) (by omega) (by omega) h0
  unfold siteV at *
  have hF : findZ ro st t g dx dy = if dx = 0 ∧ dy = 0 then ((0, 0), true) else if gateZ st t g (dx * dx + dy * dy) < 0 then ((0, 0), false) else ((rayZ ro dx dy, gateZ st t g (dx * dx + dy * dy)), true) := rfl
  have gb := gate_cases (st := st) (t := t) (g := g) (w := dx * dx + dy * dy)
  have gb1 : -1 ≤ gateZ st t g (dx * dx + dy * dy) := by omega
  clear gb
  generalize findZ ro st t g dx dy = res at *
  generalize gateZ st t g (dx * dx + dy * dy) = gt at *
  generalize rayZ ro dx dy = ry at *
  obtain ⟨hx1, hx2⟩ := X1
  obtain ⟨hy1, hy2⟩ := Y1
  have Hg := hide hg
  have Hr := hide hr
  clear hg hr
  have Hdx := hide hdx
  have Hdy := hide hdy
  clear hdx hdy
  by_cases h0 : dx = 0 ∧ dy = 0
  · rw [if_pos h0] at hF
    have z1 : (dx == 0) = true := by simpa using h0.1
    have z2 : (dy == 0) = true := by simpa using h0.2
    clear h0
    have HF := hide hF
    have Z1 := hide z1
    have Z2 := hide z2
    clear hF z1 z2
    go_enter Try.func94, Try.ntmps94
    have HB := hide (Below.refl w.heap.size w)
    go_wp2_with fail
    refine code_world fun W hW => ?_
    have bq0 : Blk W w.heap.size 83 #[.string s, .int .i64 sx, .int .i64 sy, .int .i64 z, .int .i64 ro, .int .i64 g, .int .i64 st, .int .i64 wd] := by rw [hW]; exact Blk.new _ _ _
    have LW : Later w W := by rw [hW]; exact ((Below.refl _ _).alloc (Nat.le_refl _) _)
    have szW : W.heap.size = w.heap.size + 1 := by rw [hW]; simp
    clear hW
    replace HB := hide (onward HB.out LW)
    have Hq := hide bq0
    clear bq0 LW szW
    obtain ⟨q0, q1, q2, q3, q4, q5, q6, q7⟩ := Hq.out.site8
    have lts := Hq.out.lt
    go_quiet (fail)
    have hL : Below W.heap.size W (W.drewN nq) := below_drewN (Below.refl _ _) _
    generalize (W.drewN nq : World) = w1 at hL ⊢
    clear q0 q1 q2 q3 q4 q5 q6 q7 lts
    replace HB := hide (onward HB.out hL)
    replace Hq := hide (blk_later Hq.out hL)
    clear hL
    simp only [Hdx.out, Hdy.out]
    obtain ⟨q0, q1, q2, q3, q4, q5, q6, q7⟩ := Hq.out.site8
    have lts := Hq.out.lt
    have kk1 := Z1.out
    have kk2 := Z2.out
    go_wp2
    refine bodyPost_ret (v := .tuple #[.int .i64 res.1.1, .int .i64 res.1.2, .bool res.2]) (by rw [HF.out]; simp [results, Try.results94, go_sem]) rfl ⟨rfl, HB.out⟩
  · rw [if_neg h0] at hF
    have hr := fun W => Hr.out W h0
    clear Hr
    have h0' : dx ≠ 0 ∨ (dx = 0 ∧ dy ≠ 0) := by omega
    have hw1 : wrap64 0 = 0 := IntWalk.wrap64_in 0 (by omega)
    have Hr2 := hide hr
    clear hr
    clear h0
    by_cases hneg : gt < 0
    · rw [if_pos hneg] at hF
      have HF := hide hF
      clear hF
      rcases h0' with k1 | ⟨rfl, k2⟩
      · have k1' : (dx == 0) = false := by simpa using k1
        have HK := hide k1'
        clear k1'
        clear k1
        go_enter Try.func94, Try.ntmps94
        have HB := hide (Below.refl w.heap.size w)
        go_wp2_with fail
        refine code_world fun W hW => ?_
        have bq0 : Blk W w.heap.size 83 #[.string s, .int .i64 sx, .int .i64 sy, .int .i64 z, .int .i64 ro, .int .i64 g, .int .i64 st, .int .i64 wd] := by rw [hW]; exact Blk.new _ _ _
        have LW : Later w W := by rw [hW]; exact ((Below.refl _ _).alloc (Nat.le_refl _) _)
        have szW : W.heap.size = w.heap.size + 1 := by rw [hW]; simp
        clear hW
        replace HB := hide (onward HB.out LW)
        have Hq := hide bq0
        clear bq0 LW szW
        obtain ⟨q0, q1, q2, q3, q4, q5, q6, q7⟩ := Hq.out.site8
        have lts := Hq.out.lt
        go_quiet (fail)
        have hL : Below W.heap.size W (W.drewN nq) := below_drewN (Below.refl _ _) _
        generalize (W.drewN nq : World) = w1 at hL ⊢
        clear q0 q1 q2 q3 q4 q5 q6 q7 lts
        replace HB := hide (onward HB.out hL)
        replace Hq := hide (blk_later Hq.out hL)
        clear hL
        simp only [Hdx.out, Hdy.out]
        obtain ⟨q0, q1, q2, q3, q4, q5, q6, q7⟩ := Hq.out.site8
        have lts := Hq.out.lt
        have kk := HK.out
        go_wp2_with fail
        refine (Hg.out _).mono ?_
        rintro e w2 ⟨rfl, hb⟩
        replace HB := hide (onward HB.out hb)
        replace Hq := hide (blk_later Hq.out hb)
        clear hb
        go_wp2
        refine bodyPost_ret (v := .tuple #[.int .i64 res.1.1, .int .i64 res.1.2, .bool res.2]) (by rw [HF.out]; simp [results, Try.results94, go_sem]) rfl ⟨rfl, HB.out⟩
      · have k2' : (dy == 0) = false := by simpa using k2
        have HK := hide k2'
        clear k2'
        clear k2
        have hg := Hg.out
        simp only [Int.mul_zero, Int.zero_add] at hg
        clear Hg
        have Hg := hide hg
        clear hg
        go_enter Try.func94, Try.ntmps94
        have HB := hide (Below.refl w.heap.size w)
        go_wp2_with fail
        refine code_world fun W hW => ?_
        have bq0 : Blk W w.heap.size 83 #[.string s, .int .i64 sx, .int .i64 sy, .int .i64 z, .int .i64 ro, .int .i64 g, .int .i64 st, .int .i64 wd] := by rw [hW]; exact Blk.new _ _ _
        have LW : Later w W := by rw [hW]; exact ((Below.refl _ _).alloc (Nat.le_refl _) _)
        have szW : W.heap.size = w.heap.size + 1 := by rw [hW]; simp
        clear hW
        replace HB := hide (onward HB.out LW)
        have Hq := hide bq0
        clear bq0 LW szW
        obtain ⟨q0, q1, q2, q3, q4, q5, q6, q7⟩ := Hq.out.site8
        have lts := Hq.out.lt
        go_quiet (fail)
        have hL : Below W.heap.size W (W.drewN nq) := below_drewN (Below.refl _ _) _
        generalize (W.drewN nq : World) = w1 at hL ⊢
        clear q0 q1 q2 q3 q4 q5 q6 q7 lts
        replace HB := hide (onward HB.out hL)
        replace Hq := hide (blk_later Hq.out hL)
        clear hL
        simp only [Hdx.out, Hdy.out]
        obtain ⟨q0, q1, q2, q3, q4, q5, q6, q7⟩ := Hq.out.site8
        have lts := Hq.out.lt
        have kk := HK.out
        go_wp2_with fail
        refine (Hg.out _).mono ?_
        rintro e w2 ⟨rfl, hb⟩
        replace HB := hide (onward HB.out hb)
        replace Hq := hide (blk_later Hq.out hb)
        clear hb
        go_wp2
        refine bodyPost_ret (v := .tuple #[.int .i64 res.1.1, .int .i64 res.1.2, .bool res.2]) (by rw [HF.out]; simp [results, Try.results94, go_sem]) rfl ⟨rfl, HB.out⟩
    · rw [if_neg hneg] at hF
      have HF := hide hF
      clear hF
      rcases h0' with k1 | ⟨rfl, k2⟩
      · have k1' : (dx == 0) = false := by simpa using k1
        have HK := hide k1'
        clear k1'
        clear k1
        go_enter Try.func94, Try.ntmps94
        have HB := hide (Below.refl w.heap.size w)
        go_wp2_with fail
        refine code_world fun W hW => ?_
        have bq0 : Blk W w.heap.size 83 #[.string s, .int .i64 sx, .int .i64 sy, .int .i64 z, .int .i64 ro, .int .i64 g, .int .i64 st, .int .i64 wd] := by rw [hW]; exact Blk.new _ _ _
        have LW : Later w W := by rw [hW]; exact ((Below.refl _ _).alloc (Nat.le_refl _) _)
        have szW : W.heap.size = w.heap.size + 1 := by rw [hW]; simp
        clear hW
        replace HB := hide (onward HB.out LW)
        have Hq := hide bq0
        clear bq0 LW szW
        obtain ⟨q0, q1, q2, q3, q4, q5, q6, q7⟩ := Hq.out.site8
        have lts := Hq.out.lt
        go_quiet (fail)
        have hL : Below W.heap.size W (W.drewN nq) := below_drewN (Below.refl _ _) _
        generalize (W.drewN nq : World) = w1 at hL ⊢
        clear q0 q1 q2 q3 q4 q5 q6 q7 lts
        replace HB := hide (onward HB.out hL)
        replace Hq := hide (blk_later Hq.out hL)
        clear hL
        simp only [Hdx.out, Hdy.out]
        obtain ⟨q0, q1, q2, q3, q4, q5, q6, q7⟩ := Hq.out.site8
        have lts := Hq.out.lt
        have kk := HK.out
        go_wp2_with fail
        refine (Hg.out _).mono ?_
        rintro e w2 ⟨rfl, hb⟩
        replace HB := hide (onward HB.out hb)
        replace Hq := hide (blk_later Hq.out hb)
        clear hb
        clear q0 q1 q2 q3 q4 q5 q6 q7 lts
        obtain ⟨q0, q1, q2, q3, q4, q5, q6, q7⟩ := Hq.out.site8
        have lts := Hq.out.lt
        go_wp2_with fail
        refine (Hr2.out _).mono ?_
        rintro e w3 ⟨rfl, hb⟩
        replace HB := hide (onward HB.out hb)
        replace Hq := hide (blk_later Hq.out hb)
        clear hb
        go_wp2
        refine bodyPost_ret (v := .tuple #[.int .i64 res.1.1, .int .i64 res.1.2, .bool res.2]) (by rw [HF.out]; simp [results, Try.results94, go_sem]) rfl ⟨rfl, HB.out⟩
      · have k2' : (dy == 0) = false := by simpa using k2
        have HK := hide k2'
        clear k2'
        clear k2
        have hg := Hg.out
        simp only [Int.mul_zero, Int.zero_add] at hg
        clear Hg
        have Hg := hide hg
        clear hg
        go_enter Try.func94, Try.ntmps94
        have HB := hide (Below.refl w.heap.size w)
        go_wp2_with fail
        refine code_world fun W hW => ?_
        have bq0 : Blk W w.heap.size 83 #[.string s, .int .i64 sx, .int .i64 sy, .int .i64 z, .int .i64 ro, .int .i64 g, .int .i64 st, .int .i64 wd] := by rw [hW]; exact Blk.new _ _ _
        have LW : Later w W := by rw [hW]; exact ((Below.refl _ _).alloc (Nat.le_refl _) _)
        have szW : W.heap.size = w.heap.size + 1 := by rw [hW]; simp
        clear hW
        replace HB := hide (onward HB.out LW)
        have Hq := hide bq0
        clear bq0 LW szW
        obtain ⟨q0, q1, q2, q3, q4, q5, q6, q7⟩ := Hq.out.site8
        have lts := Hq.out.lt
        go_quiet (fail)
        have hL : Below W.heap.size W (W.drewN nq) := below_drewN (Below.refl _ _) _
        generalize (W.drewN nq : World) = w1 at hL ⊢
        clear q0 q1 q2 q3 q4 q5 q6 q7 lts
        replace HB := hide (onward HB.out hL)
        replace Hq := hide (blk_later Hq.out hL)
        clear hL
        simp only [Hdx.out, Hdy.out]
        obtain ⟨q0, q1, q2, q3, q4, q5, q6, q7⟩ := Hq.out.site8
        have lts := Hq.out.lt
        have kk := HK.out
        go_wp2_with fail
        refine (Hg.out _).mono ?_
        rintro e w2 ⟨rfl, hb⟩
        replace HB := hide (onward HB.out hb)
        replace Hq := hide (blk_later Hq.out hb)
        clear hb
        clear q0 q1 q2 q3 q4 q5 q6 q7 lts
        obtain ⟨q0, q1, q2, q3, q4, q5, q6, q7⟩ := Hq.out.site8
        have lts := Hq.out.lt
        go_wp2_with fail
        refine (Hr2.out _).mono ?_
        rintro e w3 ⟨rfl, hb⟩
        replace HB := hide (onward HB.out hb)
        replace Hq := hide (blk_later Hq.out hb)
        clear hb
        go_wp2
        refine bodyPost_ret (v := .tuple #[.int .i64 res.1.1, .int .i64 res.1.2, .bool res.2]) (by rw [HF.out]; simp [results, Try.results94, go_sem]) rfl ⟨rfl, HB.out⟩
end Go.Proofs.Ytllpffkifleigaa
end
section
namespace Go.Proofs.Ytllpffkifleigaa
open Go Go.RowKit

set_option maxHeartbeats 2000000 in
set_option maxRecDepth 100000 in
theorem Find_any (s : ByteArray) (sx sy z r g st wd t x y : Int) (w : World) (hs : s.size ≤ 9223372036854775807) :
    Calls Try.prog 54 #[siteV s sx sy z r g st wd, .int .i64 t, .int .i64 x, .int .i64 y] w fun e w' => e = .returned (twoE (findR (siteE (nameB s) sx sy z r g st wd) t r st g sx sy x y)) ∧ Below w.heap.size w w' := by
  have hcs := fun W => CheckSite_any s (nameB s) sx sy z r g st wd W (fun W => Name_any s W hs)
  have hR : ∀ e, siteE (nameB s) sx sy z r g st wd = e → findR (siteE (nameB s) sx sy z r g st wd) t r st g sx sy x y = if e ≠ 0 then ((0, 0), e) else if (winBQ t 0 256 && winBQ x (-4194304) 4194304 && winBQ y (-4194304) 4194304) = true then (if (findZ r st t g (x - sx) (y - sy)).2 = true then ((findZ r st t g (x - sx) (y - sy)).1, 0) else ((0, 0), 29)) else ((0, 0), 3) := fun e he => by rw [he]; rfl
  obtain ⟨er, her⟩ : ∃ e, siteE (nameB s) sx sy z r g st wd = e := ⟨_, rfl⟩
  replace hR := hR er her
  have hok := fun h : er = 0 => siteE_ok (her.trans h)
  generalize findR (siteE (nameB s) sx sy z r g st wd) t r st g sx sy x y = res at *
  rw [her] at hcs
  clear her
  unfold siteV
  have Hcs := hide hcs
  have Hok := hide hok
  clear hcs hok
  by_cases h0 : er = 0
  · subst h0
    obtain ⟨-, s1, s2, s3, s4, s5, s6, s7, s8, s9, s10, s11, s12, s13, s14⟩ := Hok.out rfl
    rw [if_neg (by simp)] at hR
    by_cases g1 : winBQ t 0 256 = true
    · obtain ⟨t1, t2⟩ := winB_iff.1 g1
      by_cases g2 : winBQ x (-4194304) 4194304 = true
      · obtain ⟨t3, t4⟩ := winB_iff.1 g2
        by_cases g3 : winBQ y (-4194304) 4194304 = true
        · obtain ⟨t5, t6⟩ := winB_iff.1 g3
          rw [if_pos (by rw [g1, g2, g3]; rfl)] at hR
          have hf := fun W => find_any s sx sy z r g st wd t x y W (by omega) (by omega) (by omega) (by omega) (by omega) (by omega) (by omega) (by omega) ⟨by omega, by omega⟩ ⟨by omega, by omega⟩
          unfold siteV at hf
          generalize findZ r st t g (x - sx) (y - sy) = fz at *
          obtain ⟨⟨f1, f2⟩, f3⟩ := fz
          simp only at hf hR
          have Hf := hide hf
          clear hf
          cases f3
          · rw [if_neg (by simp)] at hR
            have HR := hide hR
            clear hR
            go_enter Try.func54, Try.ntmps54
            have HB := hide (Below.refl w.heap.size w)
            go_wp2_with fail
            refine at_world fun W hW => ?_
            have bq0 : Blk W w.heap.size 83 #[.string s, .int .i64 sx, .int .i64 sy, .int .i64 z, .int .i64 r, .int .i64 g, .int .i64 st, .int .i64 wd] := by rw [hW]; exact Blk.new _ _ _
            have LW : Later w W := by rw [hW]; exact ((Below.refl _ _).alloc (Nat.le_refl _) _)
            have szW : W.heap.size = w.heap.size + 1 := by rw [hW]; simp
            clear hW
            replace HB := hide (onward HB.out LW)
            have Hq := hide bq0
            clear bq0 LW szW
            refine (Hcs.out _).mono ?_
            rintro e w1 ⟨rfl, hb⟩
            replace HB := hide (onward HB.out hb)
            replace Hq := hide (blk_later Hq.out hb)
            clear hb
            obtain ⟨q0, q1, q2, q3, q4, q5, q6, q7⟩ := Hq.out.site8
            have lts := Hq.out.lt
            go_wp2_with fail
            refine (within_anyQ _ _ _ _).mono ?_
            rintro e w' ⟨rfl, rfl⟩
            rw [g1]
            go_wp2_with fail
            refine (within_anyQ _ _ _ _).mono ?_
            rintro e w' ⟨rfl, rfl⟩
            rw [g2]
            go_wp2_with fail
            refine (within_anyQ _ _ _ _).mono ?_
            rintro e w' ⟨rfl, rfl⟩
            rw [g3]
            clear g1 g2 g3
            go_wp2_with fail
            refine (Hf.out _).mono ?_
            rintro e w2 ⟨rfl, hb⟩
            replace HB := hide (onward HB.out hb)
            replace Hq := hide (blk_later Hq.out hb)
            clear hb
            go_wp2
            refine bodyPost_ret (v := twoE res) (by rw [HR.out]; simp [twoE, results, Try.results54, go_sem]) rfl ⟨rfl, HB.out⟩
          · rw [if_pos rfl] at hR
            have HR := hide hR
            clear hR
            go_enter Try.func54, Try.ntmps54
            have HB := hide (Below.refl w.heap.size w)
            go_wp2_with fail
            refine at_world fun W hW => ?_
            have bq0 : Blk W w.heap.size 83 #[.string s, .int .i64 sx, .int .i64 sy, .int .i64 z, .int .i64 r, .int .i64 g, .int .i64 st, .int .i64 wd] := by rw [hW]; exact Blk.new _ _ _
            have LW : Later w W := by rw [hW]; exact ((Below.refl _ _).alloc (Nat.le_refl _) _)
            have szW : W.heap.size = w.heap.size + 1 := by rw [hW]; simp
            clear hW
            replace HB := hide (onward HB.out LW)
            have Hq := hide bq0
            clear bq0 LW szW
            refine (Hcs.out _).mono ?_
            rintro e w1 ⟨rfl, hb⟩
            replace HB := hide (onward HB.out hb)
            replace Hq := hide (blk_later Hq.out hb)
            clear hb
            obtain ⟨q0, q1, q2, q3, q4, q5, q6, q7⟩ := Hq.out.site8
            have lts := Hq.out.lt
            go_wp2_with fail
            refine (within_anyQ _ _ _ _).mono ?_
            rintro e w' ⟨rfl, rfl⟩
            rw [g1]
            go_wp2_with fail
            refine (within_anyQ _ _ _ _).mono ?_
            rintro e w' ⟨rfl, rfl⟩
            rw [g2]
            go_wp2_with fail
            refine (within_anyQ _ _ _ _).mono ?_
            rintro e w' ⟨rfl, rfl⟩
            rw [g3]
            clear g1 g2 g3
            go_wp2_with fail
            refine (Hf.out _).mono ?_
            rintro e w2 ⟨rfl, hb⟩
            replace HB := hide (onward HB.out hb)
            replace Hq := hide (blk_later Hq.out hb)
            clear hb
            go_wp2
            refine bodyPost_ret (v := twoE res) (by rw [HR.out]; simp [twoE, results, Try.results54, go_sem]) rfl ⟨rfl, HB.out⟩
        · have g4 : winBQ y (-4194304) 4194304 = false := by simpa using g3
          rw [if_neg (by rw [g4]; simp)] at hR
          have HR := hide hR
          clear hR
          clear g3
          go_enter Try.func54, Try.ntmps54
          have HB := hide (Below.refl w.heap.size w)
          go_wp2_with fail
          refine at_world fun W hW => ?_
          have bq0 : Blk W w.heap.size 83 #[.string s, .int .i64 sx, .int .i64 sy, .int .i64 z, .int .i64 r, .int .i64 g, .int .i64 st, .int .i64 wd] := by rw [hW]; exact Blk.new _ _ _
          have LW : Later w W := by rw [hW]; exact ((Below.refl _ _).alloc (Nat.le_refl _) _)
          have szW : W.heap.size = w.heap.size + 1 := by rw [hW]; simp
          clear hW
          replace HB := hide (onward HB.out LW)
          have Hq := hide bq0
          clear bq0 LW szW
          refine (Hcs.out _).mono ?_
          rintro e w1 ⟨rfl, hb⟩
          replace HB := hide (onward HB.out hb)
          replace Hq := hide (blk_later Hq.out hb)
          clear hb
          obtain ⟨q0, q1, q2, q3, q4, q5, q6, q7⟩ := Hq.out.site8
          have lts := Hq.out.lt
          go_wp2_with fail
          refine (within_anyQ _ _ _ _).mono ?_
          rintro e w' ⟨rfl, rfl⟩
          rw [g1]
          go_wp2_with fail
          refine (within_anyQ _ _ _ _).mono ?_
          rintro e w' ⟨rfl, rfl⟩
          rw [g2]
          go_wp2_with fail
          refine (within_anyQ _ _ _ _).mono ?_
          rintro e w' ⟨rfl, rfl⟩
          rw [g4]
          go_wp2
          refine bodyPost_ret (v := twoE res) (by rw [HR.out]; simp [twoE, results, Try.results54, go_sem]) rfl ⟨rfl, HB.out⟩
      · have g3 : winBQ x (-4194304) 4194304 = false := by simpa using g2
        rw [if_neg (by rw [g3]; simp)] at hR
        have HR := hide hR
        clear hR
        clear g2
        go_enter Try.func54, Try.ntmps54
        have HB := hide (Below.refl w.heap.size w)
        go_wp2_with fail
        refine at_world fun W hW => ?_
        have bq0 : Blk W w.heap.size 83 #[.string s, .int .i64 sx, .int .i64 sy, .int .i64 z, .int .i64 r, .int .i64 g, .int .i64 st, .int .i64 wd] := by rw [hW]; exact Blk.new _ _ _
        have LW : Later w W := by rw [hW]; exact ((Below.refl _ _).alloc (Nat.le_refl _) _)
        have szW : W.heap.size = w.heap.size + 1 := by rw [hW]; simp
        clear hW
        replace HB := hide (onward HB.out LW)
        have Hq := hide bq0
        clear bq0 LW szW
        refine (Hcs.out _).mono ?_
        rintro e w1 ⟨rfl, hb⟩
        replace HB := hide (onward HB.out hb)
        replace Hq := hide (blk_later Hq.out hb)
        clear hb
        obtain ⟨q0, q1, q2, q3, q4, q5, q6, q7⟩ := Hq.out.site8
        have lts := Hq.out.lt
        go_wp2_with fail
        refine (within_anyQ _ _ _ _).mono ?_
        rintro e w' ⟨rfl, rfl⟩
        rw [g1]
        go_wp2_with fail
        refine (within_anyQ _ _ _ _).mono ?_
        rintro e w' ⟨rfl, rfl⟩
        rw [g3]
        go_wp2
        refine bodyPost_ret (v := twoE res) (by rw [HR.out]; simp [twoE, results, Try.results54, go_sem]) rfl ⟨rfl, HB.out⟩
    · have g3 : winBQ t 0 256 = false := by simpa using g1
      rw [if_neg (by rw [g3]; simp)] at hR
      have HR := hide hR
      clear hR
      clear g1
      go_enter Try.func54, Try.ntmps54
      have HB := hide (Below.refl w.heap.size w)
      go_wp2_with fail
      refine at_world fun W hW => ?_
      have bq0 : Blk W w.heap.size 83 #[.string s, .int .i64 sx, .int .i64 sy, .int .i64 z, .int .i64 r, .int .i64 g, .int .i64 st, .int .i64 wd] := by rw [hW]; exact Blk.new _ _ _
      have LW : Later w W := by rw [hW]; exact ((Below.refl _ _).alloc (Nat.le_refl _) _)
      have szW : W.heap.size = w.heap.size + 1 := by rw [hW]; simp
      clear hW
      replace HB := hide (onward HB.out LW)
      have Hq := hide bq0
      clear bq0 LW szW
      refine (Hcs.out _).mono ?_
      rintro e w1 ⟨rfl, hb⟩
      replace HB := hide (onward HB.out hb)
      replace Hq := hide (blk_later Hq.out hb)
      clear hb
      obtain ⟨q0, q1, q2, q3, q4, q5, q6, q7⟩ := Hq.out.site8
      have lts := Hq.out.lt
      go_wp2_with fail
      refine (within_anyQ _ _ _ _).mono ?_
      rintro e w' ⟨rfl, rfl⟩
      rw [g3]
      go_wp2
      refine bodyPost_ret (v := twoE res) (by rw [HR.out]; simp [twoE, results, Try.results54, go_sem]) rfl ⟨rfl, HB.out⟩
  · rw [if_pos h0] at hR
    have h00 : (er != 0) = true := by simpa [bne] using h0
    have HR := hide hR
    clear hR
    go_enter Try.func54, Try.ntmps54
    have HB := hide (Below.refl w.heap.size w)
    go_wp2_with fail
    refine at_world fun W hW => ?_
    have bq0 : Blk W w.heap.size 83 #[.string s, .int .i64 sx, .int .i64 sy, .int .i64 z, .int .i64 r, .int .i64 g, .int .i64 st, .int .i64 wd] := by rw [hW]; exact Blk.new _ _ _
    have LW : Later w W := by rw [hW]; exact ((Below.refl _ _).alloc (Nat.le_refl _) _)
    have szW : W.heap.size = w.heap.size + 1 := by rw [hW]; simp
    clear hW
    replace HB := hide (onward HB.out LW)
    have Hq := hide bq0
    clear bq0 LW szW
    refine (Hcs.out _).mono ?_
    rintro e w1 ⟨rfl, hb⟩
    replace HB := hide (onward HB.out hb)
    replace Hq := hide (blk_later Hq.out hb)
    clear hb
    obtain ⟨q0, q1, q2, q3, q4, q5, q6, q7⟩ := Hq.out.site8
    have lts := Hq.out.lt
    go_wp2
    refine bodyPost_ret (v := twoE res) (by rw [HR.out]; simp [twoE, results, Try.results54, go_sem]) rfl ⟨rfl, HB.out⟩
end Go.Proofs.Ytllpffkifleigaa
end
section
namespace Go.Proofs.Ytllpffkifleigaa
open Go Go.RowKit

theorem sector_quarter {n a X Y : Int} (hn : 1 ≤ n) (h0 : 0 ≤ a) (h1 : a < 4 * n) (h : sectorB n a X Y = true) : sectorB n ((a + n) % (4 * n)) Y (-X) = true ∧ 0 ≤ (a + n) % (4 * n) ∧ (a + n) % (4 * n) < 4 * n := by
  obtain ⟨q, k, hq, hk, hkn, rfl⟩ := split_ray hn h0 h1
  refine ⟨?_, Int.emod_nonneg _ (by omega), Int.emod_lt_of_pos _ (by omega)⟩
  rw [sector_turn hn hk hkn hq] at h
  have c : q = 0 ∨ q = 1 ∨ q = 2 ∨ q = 3 := by omega
  rcases c with rfl | rfl | rfl | rfl
  · have e : (((0 : Nat) : Int) * n + k + n) % (4 * n) = ((1 : Nat) : Int) * n + k := by rw [Int.emod_eq_of_lt (by omega) (by omega)]; omega
    rw [e, sector_turn hn hk hkn (by omega)]
    simpa [rotN] using h
  · have e : (((1 : Nat) : Int) * n + k + n) % (4 * n) = ((2 : Nat) : Int) * n + k := by rw [Int.emod_eq_of_lt (by omega) (by omega)]; omega
    rw [e, sector_turn hn hk hkn (by omega)]
    simpa [rotN] using h
  · have e : (((2 : Nat) : Int) * n + k + n) % (4 * n) = ((3 : Nat) : Int) * n + k := by rw [Int.emod_eq_of_lt (by omega) (by omega)]; omega
    rw [e, sector_turn hn hk hkn (by omega)]
    simpa [rotN] using h
  · have e : (((3 : Nat) : Int) * n + k + n) % (4 * n) = ((0 : Nat) : Int) * n + k := by
      rw [show ((3 : Nat) : Int) * n + k + n = k + (4 * n) by omega, Int.add_emod_right, Int.emod_eq_of_lt (by omega) (by omega)]; omega
    rw [e, sector_turn hn hk hkn (by omega)]
    simpa [rotN] using h
theorem ray_quarter {n X Y : Int} (hn : 1 ≤ n) (h : ¬ (X = 0 ∧ Y = 0)) : rayZ n Y (-X) = (rayZ n X Y + n) % (4 * n) := by
  obtain ⟨h0, h1, h2⟩ := ray_spec hn h
  obtain ⟨g1, g2, g3⟩ := sector_quarter hn h0 h1 h2
  exact ray_is hn g2 g3 g1
theorem find_quarter {n st t g X Y : Int} (hn : 1 ≤ n) (h : ¬ (X = 0 ∧ Y = 0)) : findZ n st t g Y (-X) = if (findZ n st t g X Y).2 = true then ((((findZ n st t g X Y).1.1 + n) % (4 * n), (findZ n st t g X Y).1.2), true) else ((0, 0), false) := by
  have e : Y * Y + -X * -X = X * X + Y * Y := by rw [Int.neg_mul_neg]; omega
  unfold findZ
  rw [if_neg (show ¬ (Y = 0 ∧ -X = 0) by omega), if_neg h, e, ray_quarter hn h]
  by_cases c : gateZ st t g (X * X + Y * Y) < 0
  · simp [c]
  · simp [c]

theorem dirV_bd {n a : Int} (h1 : 1 ≤ n) (h2 : n ≤ 180) (h3 : 0 ≤ a) (h4 : a < 4 * n) : (-64800 ≤ (dirV n a).x ∧ (dirV n a).x ≤ 64800) ∧ (-64800 ≤ (dirV n a).y ∧ (dirV n a).y ≤ 64800) ∧ 1 ≤ (dirV n a).l ∧ (dirV n a).l ≤ 64800 := by
  obtain ⟨q, b1, b2, b3, b4, b5, b6, b7, b8⟩ := dir_bd h1 h2 h3 (show a ≤ 4 * n - 1 by omega)
  have b9 : 1 ≤ n * n := Int.mul_pos (by omega) (by omega)
  unfold dirV
  generalize 2 * n * (a % n) = p at *
  generalize n * n = m at *
  generalize a % n * (a % n) = k at *
  generalize a / n = c at *
  clear h1 h2 h3 h4 b1 b2
  unfold quarter
  split
  · exact ⟨⟨by show -64800 ≤ p; omega, by show p ≤ 64800; omega⟩, ⟨by show -64800 ≤ m - k; omega, by show m - k ≤ 64800; omega⟩, by show 1 ≤ m + k; omega, by show m + k ≤ 64800; omega⟩
  · split
    · exact ⟨⟨by show -64800 ≤ m - k; omega, by show m - k ≤ 64800; omega⟩, ⟨by show -64800 ≤ -p; omega, by show -p ≤ 64800; omega⟩, by show 1 ≤ m + k; omega, by show m + k ≤ 64800; omega⟩
    · split
      · exact ⟨⟨by show -64800 ≤ -p; omega, by show -p ≤ 64800; omega⟩, ⟨by show -64800 ≤ -(m - k); omega, by show -(m - k) ≤ 64800; omega⟩, by show 1 ≤ m + k; omega, by show m + k ≤ 64800; omega⟩
      · exact ⟨⟨by show -64800 ≤ -(m - k); omega, by show -(m - k) ≤ 64800; omega⟩, ⟨by show -64800 ≤ p; omega, by show p ≤ 64800; omega⟩, by show 1 ≤ m + k; omega, by show m + k ≤ 64800; omega⟩

end Go.Proofs.Ytllpffkifleigaa
end
section
namespace Go.Proofs.Ytllpffkifleigaa
open Go Go.RowKit

/-- The pixel of a place; -1 outside. -/
def pixZ (gx gy gs wi hi x y : Int) : Int :=
  if x < gx ∨ y < gy ∨ gx + wi * gs ≤ x ∨ gy + hi * gs ≤ y then -1 else (y - gy) / gs * wi + (x - gx) / gs
def pixR (e gx gy gs wi hi x y : Int) : Int × Int :=
  if e ≠ 0 then (0, e) else if pixZ gx gy gs wi hi x y < 0 then (0, 29) else (pixZ gx gy gs wi hi x y, 0)
theorem pix_bd {gx gs wi x : Int} (h1 : 1 ≤ gs) (h2 : gx ≤ x) (h3 : x < gx + wi * gs) : 0 ≤ (x - gx) / gs ∧ (x - gx) / gs < wi :=
  ⟨Int.ediv_nonneg (by omega) (by omega), Int.ediv_lt_of_lt_mul (by omega) (by omega)⟩

def placeZ (sx sy ro st t ray gate : Int) : Int × Int := (sx + rD st gate t * (dirV (2 * ro) (2 * ray + 1)).x / (dirV (2 * ro) (2 * ray + 1)).l, sy + rD st gate t * (dirV (2 * ro) (2 * ray + 1)).y / (dirV (2 * ro) (2 * ray + 1)).l)
theorem rD_bd {st gate t : Int} (h1 : -8 ≤ t) (h2 : t ≤ 264) (h3 : 0 ≤ gate) (h4 : gate ≤ 199) (h5 : 0 ≤ st) (h6 : st ≤ 2000) : 0 ≤ rD st gate t ∧ rD st gate t ≤ 600000 := by
  obtain ⟨a1, a2, a3, a4, a5, a6⟩ := reach_bd h1 h2 h3 h4 h5 h6
  unfold rD reachN reachD
  generalize (2 * gate + 1) * st * (262144 - t * t) = n at *
  generalize t * t = m at *
  exact ⟨Int.ediv_nonneg a5 (by omega), Int.le_of_lt_add_one (Int.ediv_lt_of_lt_mul (by omega) (by omega))⟩
theorem quot_bd {a b M : Int} (hb : 1 ≤ b) (hM : 0 ≤ M) (h1 : -M ≤ a) (h2 : a ≤ M) : -M ≤ a / b ∧ a / b ≤ M := by
  constructor
  · rw [Int.le_ediv_iff_mul_le (by omega)]
    have : M ≤ M * b := by have := Int.mul_le_mul_of_nonneg_left hb hM; omega
    have e : -M * b = -(M * b) := Int.neg_mul _ _
    omega
  · have : M ≤ M * b := by have := Int.mul_le_mul_of_nonneg_left hb hM; omega
    exact Int.ediv_le_of_le_mul (by omega) (by omega)

end Go.Proofs.Ytllpffkifleigaa
end
section
namespace Go.Proofs.Ytllpffkifleigaa
open Go Go.RowKit

def placeR (e t ray gate g sx sy ro st : Int) : (Int × Int) × Int :=
  if e ≠ 0 then ((0, 0), e) else if (winBQ t 0 256 && winBQ ray 0 (4 * ro - 1) && winBQ gate 0 (g - 1)) = true then (placeZ sx sy ro st t ray gate, 0) else ((0, 0), 3)

end Go.Proofs.Ytllpffkifleigaa
end
section
namespace Go.Proofs.Ytllpffkifleigaa
open Go Go.RowKit

theorem fieldSpan0 (a b : Int) (w : World) : (Instr.field 32 (.agg #[.int .i64 a, .int .i64 b]) 0).run Try.prog w = .ok (.int .i64 a) w := by kernel_rfl
theorem fieldSpan1 (a b : Int) (w : World) : (Instr.field 32 (.agg #[.int .i64 a, .int .i64 b]) 1).run Try.prog w = .ok (.int .i64 b) w := by kernel_rfl
attribute [local go_sem] fieldSpan0 fieldSpan1
end Go.Proofs.Ytllpffkifleigaa
end
section
namespace Go.Proofs.Ytllpffkifleigaa
open Go Go.RowKit

set_option maxHeartbeats 2000000 in
set_option maxRecDepth 100000 in
theorem RefSector_any (n a X Y : Int) (w : World) (h1 : 1 ≤ n) (h2 : n ≤ 180) (h3 : 0 ≤ a) (h4 : a < 4 * n) (hX : -6000000 ≤ X ∧ X ≤ 6000000) (hY : -6000000 ≤ Y ∧ Y ≤ 6000000) :
    Calls Try.prog 109 #[.int .i64 n, .int .i64 a, .int .i64 X, .int .i64 Y] w fun e w' => e = .returned (.bool (sectorB n a X Y)) ∧ w = w' := by
  have hd := fun W => RefDirection_any n a W
  have m0 := Int.emod_nonneg (a + 1) (show 4 * n ≠ 0 by omega)
  have m1 := Int.emod_lt_of_pos (a + 1) (show 0 < 4 * n by omega)
  have hd2 := fun W => RefDirection_any n ((a + 1) % (4 * n)) W
  have ok : ∀ b, 0 ≤ b → b < 4 * n → okD n b = true := fun b b0 b1 => by unfold okD; rw [winB_iff.2 ⟨h1, h2⟩, winB_iff.2 ⟨b0, by omega⟩]; rfl
  unfold dirR at hd hd2
  rw [if_pos (ok a h3 h4)] at hd
  rw [if_pos (ok _ m0 m1)] at hd2
  have bd1 := dirV_bd h1 h2 h3 h4
  have bd2 := dirV_bd h1 h2 m0 m1
  unfold vecE at hd hd2
  unfold sectorB
  obtain ⟨b, hb⟩ : ∃ b, (a + 1) % (4 * n) = b := ⟨_, rfl⟩
  have n0 : 4 * n ≠ 0 := by omega
  have n1 : 0 < 4 * n := by omega
  rw [hb] at hd2 bd2 m0 m1
  rw [hb]
  generalize dirV n a = u at *
  generalize dirV n b = v at *
  obtain ⟨p1, p2, p3⟩ := u
  obtain ⟨r1, r2, r3⟩ := v
  simp only at *
  obtain ⟨⟨u1, u2⟩, ⟨u3, u4⟩, -, -⟩ := bd1
  obtain ⟨⟨v1, v2⟩, ⟨v3, v4⟩, -, -⟩ := bd2
  obtain ⟨k1, k2⟩ := prod_bd (A := 64800) (B := 6000000) (by omega) (by omega) ⟨u3, u4⟩ hX
  obtain ⟨k3, k4⟩ := prod_bd (A := 64800) (B := 6000000) (by omega) (by omega) ⟨u1, u2⟩ hY
  obtain ⟨k5, k6⟩ := prod_bd (A := 6000000) (B := 64800) (by omega) (by omega) hY ⟨v1, v2⟩
  obtain ⟨k7, k8⟩ := prod_bd (A := 6000000) (B := 64800) (by omega) (by omega) hX ⟨v3, v4⟩
  clear ok
  by_cases g1 : 0 ≤ p2 * X - p1 * Y <;> by_cases g2 : 0 < Y * r1 - X * r2
  all_goals
    have g3 := g1
    have g4 := g2
    have Hd := hide hd
    have Hd2 := hide hd2
    have G3 := hide g3
    have G4 := hide g4
    clear hd hd2 g3 g4
    go_enter Try.func109, Try.ntmps109
    go_wp2_with fail
    refine (Hd.out _).mono ?_
    rintro e w' ⟨rfl, rfl⟩
    go_wp2_with fail
    refine (Hd2.out _).mono ?_
    rintro e w' ⟨rfl, rfl⟩
    go_wp2
    go_ret
    refine ⟨?_, rfl⟩
    have a3 := G3.out
    have a4 := G4.out
    simp
    omega
end Go.Proofs.Ytllpffkifleigaa
end
section
namespace Go.Proofs.Ytllpffkifleigaa
open Go Go.RowKit
attribute [local go_sem] fieldSpan0 fieldSpan1

set_option maxHeartbeats 2000000 in
set_option maxRecDepth 100000 in
theorem Border_any (s : ByteArray) (x y z r g st wd t j : Int) (w : World) (h1 : 0 ≤ st) (h1' : st ≤ 2000) (h2 : 0 ≤ t) (h3 : t ≤ 256) (h4 : 0 ≤ j) (h5 : j ≤ 200) :
    Calls Try.prog 108 #[siteV s x y z r g st wd, .int .i64 t, .int .i64 j] w fun e w' => e = .returned (.int .i64 (bord st t j)) ∧ Below w.heap.size w w' := by
  have hs := fun W => RefSlant_any t W
  unfold slantR at hs
  simp only [if_pos (winB_iff.2 ⟨show -8 ≤ t by omega, show t ≤ 264 by omega⟩)] at hs
  unfold vecE slantV at hs
  simp only at hs
  obtain ⟨b1, b2, b3, b4, b5, b6⟩ := bord_bd h1 h1' h2 h3 h4 h5
  obtain ⟨t1, t2⟩ := tilt_bd (show -8 ≤ t by omega) (show t ≤ 264 by omega)
  have hB : bord st t j = j * st * (262144 - t * t) / (262144 + t * t) := rfl
  rw [hB]
  clear hB b5 b6
  have hd := fun W => Down_any (j * st * (262144 - t * t)) (262144 + t * t) W (by omega) (by omega) (by omega) (by omega)
  unfold siteV
  have Hs := hide hs
  have Hd := hide hd
  clear hs hd
  go_enter Try.func108, Try.ntmps108
  have HB := hide (Below.refl w.heap.size w)
  go_wp2_with fail
  refine at_world fun W hW => ?_
  have bq0 : Blk W w.heap.size 83 #[.string s, .int .i64 x, .int .i64 y, .int .i64 z, .int .i64 r, .int .i64 g, .int .i64 st, .int .i64 wd] := by rw [hW]; exact Blk.new _ _ _
  have LW : Later w W := by rw [hW]; exact ((Below.refl _ _).alloc (Nat.le_refl _) _)
  have szW : W.heap.size = w.heap.size + 1 := by rw [hW]; simp
  clear hW
  replace HB := hide (onward HB.out LW)
  have Hq := hide bq0
  clear bq0 LW szW
  refine (Hs.out _).mono ?_
  rintro e w' ⟨rfl, rfl⟩
  obtain ⟨q0, q1, q2, q3, q4, q5, q6, q7⟩ := Hq.out.site8
  have lts := Hq.out.lt
  go_wp2_with fail
  refine (Hd.out _).mono ?_
  rintro e w' ⟨rfl, rfl⟩
  go_wp2
  go_ret
  exact ⟨rfl, HB.out⟩

end Go.Proofs.Ytllpffkifleigaa
end
section
namespace Go.Proofs.Ytllpffkifleigaa
open Go Go.RowKit

set_option maxHeartbeats 2000000 in
set_option maxRecDepth 100000 in
theorem RefFind_any (s : ByteArray) (sx sy z r g st wd t x y : Int) (w : World) (hs : s.size ≤ 9223372036854775807) :
    Calls Try.prog 92 #[siteV s sx sy z r g st wd, .int .i64 t, .int .i64 x, .int .i64 y] w fun e w' => e = .returned (twoE (findR (siteE (nameB s) sx sy z r g st wd) t r st g sx sy x y)) ∧ Below w.heap.size w w' := by
  have hcs := fun W => RefCheckSite_any s sx sy z r g st wd W hs
  have hR : ∀ e, siteE (nameB s) sx sy z r g st wd = e → findR (siteE (nameB s) sx sy z r g st wd) t r st g sx sy x y = if e ≠ 0 then ((0, 0), e) else if (winBQ t 0 256 && winBQ x (-4194304) 4194304 && winBQ y (-4194304) 4194304) = true then (if (findZ r st t g (x - sx) (y - sy)).2 = true then ((findZ r st t g (x - sx) (y - sy)).1, 0) else ((0, 0), 29)) else ((0, 0), 3) := fun e he => by rw [he]; rfl
  obtain ⟨er, her⟩ : ∃ e, siteE (nameB s) sx sy z r g st wd = e := ⟨_, rfl⟩
  replace hR := hR er her
  have hok := fun h : er = 0 => siteE_ok (her.trans h)
  generalize findR (siteE (nameB s) sx sy z r g st wd) t r st g sx sy x y = res at *
  rw [her] at hcs
  clear her
  unfold siteV at *
  have Hcs := hide hcs
  have Hok := hide hok
  clear hcs hok
  by_cases h0 : er = 0
  · subst h0
    obtain ⟨-, s1, s2, s3, s4, s5, s6, s7, s8, s9, s10, s11, s12, s13, s14⟩ := Hok.out rfl
    rw [if_neg (by simp)] at hR
    by_cases g1 : winBQ t 0 256 = true
    · obtain ⟨t1, t2⟩ := winB_iff.1 g1
      by_cases g2 : winBQ x (-4194304) 4194304 = true
      · obtain ⟨t3, t4⟩ := winB_iff.1 g2
        by_cases g3 : winBQ y (-4194304) 4194304 = true
        · obtain ⟨t5, t6⟩ := winB_iff.1 g3
          rw [if_pos (by rw [g1, g2, g3]; rfl)] at hR
          have x1 : -5300000 ≤ x - sx := by omega
          have x2 : x - sx ≤ 5300000 := by omega
          have y1 : -5300000 ≤ y - sy := by omega
          have y2 : y - sy ≤ 5300000 := by omega
          have hbord := fun W j (a : 0 ≤ j) (b : j ≤ 200) => Border_any s sx sy z r g st wd t j W (by omega) (by omega) t1 t2 a b
          have hbo := fun j (a : 0 ≤ j) (b : j ≤ 200) => bord_bd (st := st) (t := t) (j := j) (by omega) s12 t1 t2 a b
          have hbo' : ∀ j, 0 ≤ j → j ≤ 200 → 0 ≤ bord st t j ∧ bord st t j ≤ 400000 := fun j a b => (hbo j a b).2.2.2.2
          clear hbo
          unfold siteV at hbord
          have X1 : -5300000 ≤ x - sx ∧ x - sx ≤ 5300000 := ⟨x1, x2⟩
          have Y1 : -5300000 ≤ y - sy ∧ y - sy ≤ 5300000 := ⟨y1, y2⟩
          obtain ⟨dx, hdx⟩ : ∃ d, x - sx = d := ⟨_, rfl⟩
          obtain ⟨dy, hdy⟩ := (⟨_, rfl⟩ : ∃ d, y - sy = d)
          rw [hdx, hdy] at hR
          rw [hdx] at X1
          rw [hdy] at Y1
          obtain ⟨u1, u2⟩ := sq_pos X1
          obtain ⟨v1, v2⟩ := sq_pos Y1
          have Hbd := hide hbord
          have Hbo := hide hbo'
          have Hdx := hide hdx
          have Hdy := hide hdy
          clear hbord hbo' hdx hdy
          by_cases hz : dx = 0 ∧ dy = 0
          · have hF : findZ r st t g dx dy = ((0, 0), true) := by unfold findZ; rw [if_pos hz]
            rw [hF, if_pos rfl] at hR
            have z1 : (dx == 0) = true := by simpa using hz.1
            have z2 : (dy == 0) = true := by simpa using hz.2
            clear hz hF
            have HR := hide hR
            have Z1 := hide z1
            have Z2 := hide z2
            clear hR z1 z2
            go_enter Try.func92, Try.ntmps92
            have HB := hide (Below.refl w.heap.size w)
            go_wp2_with fail
            refine at_world fun W hW => ?_
            have bq0 : Blk W w.heap.size 83 #[.string s, .int .i64 sx, .int .i64 sy, .int .i64 z, .int .i64 r, .int .i64 g, .int .i64 st, .int .i64 wd] := by rw [hW]; exact Blk.new _ _ _
            have LW : Later w W := by rw [hW]; exact ((Below.refl _ _).alloc (Nat.le_refl _) _)
            have szW : W.heap.size = w.heap.size + 1 := by rw [hW]; simp
            clear hW
            replace HB := hide (onward HB.out LW)
            have Hq := hide bq0
            clear bq0 LW szW
            refine (Hcs.out _).mono ?_
            rintro e w1 ⟨rfl, hb⟩
            replace HB := hide (onward HB.out hb)
            replace Hq := hide (blk_later Hq.out hb)
            clear hb
            obtain ⟨q0, q1, q2, q3, q4, q5, q6, q7⟩ := Hq.out.site8
            have lts := Hq.out.lt
            go_wp2_with fail
            refine (In_any _ _ _ _).mono ?_
            rintro e w' ⟨rfl, rfl⟩
            rw [g1]
            go_wp2_with fail
            refine (In_any _ _ _ _).mono ?_
            rintro e w' ⟨rfl, rfl⟩
            rw [g2]
            go_wp2_with fail
            refine (In_any _ _ _ _).mono ?_
            rintro e w' ⟨rfl, rfl⟩
            rw [g3]
            clear g1 g2 g3
            go_wp2_with fail
            apply wp_region_L (w0 := w1) [[], [], [], [], [], [], [], [], [], []] [true, true, true, true, true, true, true, true, true, true] [] (fun ixq y => match ixq with  | _ => undef) (fun ixq x F wq => match ixq with  | _ => True) (fun a x => a) (by kernel_rfl) (by kernel_rfl) (fun _ => rfl) [] (by kernel_rfl)
            · intro x D hD
              have hne := hD.some
              have k1 := liftB hD q1 (by first | assumption | omega)
              have k2 := liftB hD q2 (by first | assumption | omega)
              simp only [takeOps, Act.put, List.setIfInBounds_toArray, List.set_cons_succ, List.set_cons_zero]
              repeat (go_big_quiet_step (fail))
              exact wpQuiet_nil rfl
            · exact fun _ h => absurd h (by simp)
            · exact trivial
            · exact trivial
            intro xx w2 F hL hlv1
            clear hlv1
            clear q0 q1 q2 q3 q4 q5 q6 q7 lts
            replace HB := hide (onward HB.out hL)
            replace Hq := hide (blk_later Hq.out hL)
            clear hL
            simp only [Hdx.out, Hdy.out]
            have kk1 := Z1.out
            have kk2 := Z2.out
            go_wp2
            refine bodyPost_ret (v := twoE res) (by rw [HR.out]; simp [twoE, results, Try.results92, go_sem]) rfl ⟨rfl, HB.out⟩
          · obtain ⟨ry0, ry1, ry2⟩ := ray_spec s7 hz
            have hun : ∀ a, 0 ≤ a → a < 4 * r → a ≠ rayZ r dx dy → sectorB r a dx dy = false := fun a a0 a1 hne => by
              cases hb : sectorB r a dx dy with
              | false => rfl
              | true => exact absurd (sector_uniq s7 a0 a1 ry0 ry1 hb ry2) hne
            have hsec := fun W a (a0 : 0 ≤ a) (a1 : a < 4 * r) => RefSector_any r a dx dy W s7 (by omega) a0 a1 ⟨by omega, by omega⟩ ⟨by omega, by omega⟩
            have hF : findZ r st t g dx dy = if gateZ st t g (dx * dx + dy * dy) < 0 then ((0, 0), false) else ((rayZ r dx dy, gateZ st t g (dx * dx + dy * dy)), true) := by unfold findZ; rw [if_neg hz]
            have hgc := gate_cases (st := st) (t := t) (g := g) (w := dx * dx + dy * dy)
            have hgn := fun j => gate_none (st := st) (t := t) (g := g) (w := dx * dx + dy * dy) (j := j)
            have hgu := fun j k => gate_uniq (st := st) (t := t) (w := dx * dx + dy * dy) (j := j) (k := k) (by omega) t1 t2
            have hgate : ∀ w j, gateB st t w j = (decide (bord st t j * bord st t j ≤ w) && decide (w < bord st t (j + 1) * bord st t (j + 1))) := fun w j => rfl
            simp only [hgate] at hgn hgu hgc
            rw [hF] at hR
            clear hF hgate
            generalize gateZ st t g (dx * dx + dy * dy) = gt at *
            generalize rayZ r dx dy = ray at *
            generalize hv : dx * dx + dy * dy = v at *
            obtain ⟨gx, hgx, hgx0, hgx1, hgf⟩ : ∃ gx : Int, (∀ j, 0 ≤ j → j < g → (bord st t j * bord st t j ≤ v ∧ v < bord st t (j + 1) * bord st t (j + 1) ↔ j = gx)) ∧ 0 ≤ gx ∧ gx ≤ g ∧ ((gt < 0 ∧ gx = g) ∨ (¬ gt < 0 ∧ gx = gt ∧ gt < g)) := by
              rcases hgc with hg1 | ⟨hg1, hg2, hg3⟩
              · refine ⟨g, fun j j0 j1 => ⟨fun hh => ?_, fun hh => by omega⟩, by omega, by omega, .inl ⟨by omega, rfl⟩⟩
                have := hgn j hg1 j0 j1
                rw [decide_eq_true hh.1, decide_eq_true hh.2] at this
                cases this
              · refine ⟨gt, fun j j0 j1 => ⟨fun hh => hgu j gt j0 hg1 (by rw [decide_eq_true hh.1, decide_eq_true hh.2]; rfl) hg3, fun hh => ?_⟩, hg1, by omega, .inr ⟨by omega, rfl, hg2⟩⟩
                subst hh
                simpa using hg3
            clear hgn hgu hgc
            rw [← hv] at hgx
            clear hv
            have hz' : dx ≠ 0 ∨ (dx = 0 ∧ dy ≠ 0) := by omega
            have hR1 : gx = g → res = ((0, 0), 29) := fun h => by rw [hR, if_pos (show gt < 0 by omega)]; rfl
            have hR2 : gx < g → res = ((ray, gx), 0) := fun h => by rw [hR, if_neg (show ¬ gt < 0 by omega), show gx = gt by omega]; rfl
            clear hR hgf hz
            have Hgx := hide hgx
            have Hun := hide hun
            have Hsec := hide hsec
            have Hry := hide ry2
            have HR1 := hide hR1
            have HR2 := hide hR2
            clear hgx hun hsec ry2 hR1 hR2
            rcases hz' with z1 | ⟨z1, z2⟩
            · have zz : (dx == 0) = false := by simpa using z1
              have ZZ := hide zz
              clear zz
              clear z1
              go_enter Try.func92, Try.ntmps92
              have HB := hide (Below.refl w.heap.size w)
              go_wp2_with fail
              refine at_world fun W hW => ?_
              have bq0 : Blk W w.heap.size 83 #[.string s, .int .i64 sx, .int .i64 sy, .int .i64 z, .int .i64 r, .int .i64 g, .int .i64 st, .int .i64 wd] := by rw [hW]; exact Blk.new _ _ _
              have LW : Later w W := by rw [hW]; exact ((Below.refl _ _).alloc (Nat.le_refl _) _)
              have szW : W.heap.size = w.heap.size + 1 := by rw [hW]; simp
              clear hW
              replace HB := hide (onward HB.out LW)
              have Hq := hide bq0
              clear bq0 LW szW
              refine (Hcs.out _).mono ?_
              rintro e w1 ⟨rfl, hb⟩
              replace HB := hide (onward HB.out hb)
              replace Hq := hide (blk_later Hq.out hb)
              clear hb
              obtain ⟨q0, q1, q2, q3, q4, q5, q6, q7⟩ := Hq.out.site8
              have lts := Hq.out.lt
              go_wp2_with fail
              refine (In_any _ _ _ _).mono ?_
              rintro e w' ⟨rfl, rfl⟩
              rw [g1]
              go_wp2_with fail
              refine (In_any _ _ _ _).mono ?_
              rintro e w' ⟨rfl, rfl⟩
              rw [g2]
              go_wp2_with fail
              refine (In_any _ _ _ _).mono ?_
              rintro e w' ⟨rfl, rfl⟩
              rw [g3]
              clear g1 g2 g3
              go_wp2_with fail
              apply wp_region_L (w0 := w1) [[], [], [], [], [], [], [], [], [], []] [true, true, true, true, true, true, true, true, true, true] [] (fun ixq y => match ixq with  | _ => undef) (fun ixq x F wq => match ixq with  | _ => True) (fun a x => a) (by kernel_rfl) (by kernel_rfl) (fun _ => rfl) [] (by kernel_rfl)
              · intro x D hD
                have hne := hD.some
                have k1 := liftB hD q1 (by first | assumption | omega)
                have k2 := liftB hD q2 (by first | assumption | omega)
                simp only [takeOps, Act.put, List.setIfInBounds_toArray, List.set_cons_succ, List.set_cons_zero]
                repeat (go_big_quiet_step (fail))
                exact wpQuiet_nil rfl
              · exact fun _ h => absurd h (by simp)
              · exact trivial
              · exact trivial
              intro xx w2 F hL hlv2
              clear hlv2
              clear q0 q1 q2 q3 q4 q5 q6 q7 lts
              replace HB := hide (onward HB.out hL)
              replace Hq := hide (blk_later Hq.out hL)
              clear hL
              simp only [Hdx.out, Hdy.out]
              have kk := ZZ.out
              go_wp2_with fail
              go_loopw [15] (fun a wr => ∃ k : Int, 0 ≤ k ∧ k ≤ gx ∧ a = .int .i64 k ∧ Below w.heap.size w wr ∧ Blk wr w.heap.size 83 #[.string s, .int .i64 sx, .int .i64 sy, .int .i64 z, .int .i64 r, .int .i64 g, .int .i64 st, .int .i64 wd]) (fun a _ => (g - intOf a).toNat)
              case atStart => exact ⟨0, by omega, by omega, rfl, HB.out, Hq.out⟩
              case round =>
                clear HB Hq
                obtain ⟨k, k0, k1, rfl, hbw, hbq⟩ := hrel
                have HB := hide hbw
                have Hq := hide hbq
                clear hbw hbq
                by_cases hlt : k < g
                · obtain ⟨b5, b6⟩ := Hbo.out k k0 (by omega)
                  obtain ⟨e5, e6⟩ := Hbo.out (k + 1) (by omega) (by omega)
                  have hc1 := fun W => Hbd.out W k k0 (by omega)
                  have hc2 := fun W => Hbd.out W (k + 1) (by omega) (by omega)
                  have hgk := Hgx.out k k0 hlt
                  generalize bord st t k = lo at *
                  generalize bord st t (k + 1) = hi at *
                  obtain ⟨sl1, sl2⟩ := mul_bdB b5 b6 b5 b6
                  obtain ⟨sh1, sh2⟩ := mul_bdB e5 e6 e5 e6
                  have Hgk := hide hgk
                  have C1 := hide hc1
                  have C2 := hide hc2
                  clear hgk hc1 hc2
                  obtain ⟨q0, q1, q2, q3, q4, q5, q6, q7⟩ := Hq.out.site8
                  have lts := Hq.out.lt
                  go_wp2_with fail
                  apply wp_region_L (w0 := wr) [[], [], [], [], [], [], [], [], [], [], []] [true, true, true, true, true, true, true, true, true, true, true] [] (fun ixq y => match ixq with  | _ => undef) (fun ixq x F wq => match ixq with  | _ => True) (fun a x => a) (by kernel_rfl) (by kernel_rfl) (fun _ => rfl) [67, 72] (by kernel_rfl)
                  · intro x D hD
                    have hne := hD.some
                    have k0 := liftB hD q0 (by first | assumption | omega)
                    have k1 := liftB hD q1 (by first | assumption | omega)
                    have k2 := liftB hD q2 (by first | assumption | omega)
                    have k3 := liftB hD q3 (by first | assumption | omega)
                    have k4 := liftB hD q4 (by first | assumption | omega)
                    have k5 := liftB hD q5 (by first | assumption | omega)
                    have k6 := liftB hD q6 (by first | assumption | omega)
                    have k7 := liftB hD q7 (by first | assumption | omega)
                    simp only [takeOps, Act.put, List.setIfInBounds_toArray, List.set_cons_succ, List.set_cons_zero]
                    repeat (go_big_quiet_step ((go_at_call 108; first | (with_reducible exact calls_later hD _ (C1.out _)) | (with_reducible exact calls_later hD _ (C2.out _)))))
                    exact wpQuiet_nil rfl
                  · intro d hd x x'
                    simp only [List.mem_cons, List.not_mem_nil, or_false] at hd
                    rcases hd with rfl | rfl
                    all_goals rfl
                  · exact trivial
                  · exact trivial
                  intro xx w5 F hL hlv3
                  clear hlv3
                  clear q0 q1 q2 q3 q4 q5 q6 q7 lts
                  replace HB := hide (onward HB.out hL)
                  replace Hq := hide (blk_later Hq.out hL)
                  clear hL
                  by_cases hk : k = gx
                  · obtain ⟨g1, g2⟩ := Hgk.out.2 hk
                    have HK := hide hk
                    have hkg : gx < g := by omega
                    clear hk
                    go_wp2_with fail
                    go_loopw [18] (fun a wr => ∃ c : Int, 0 ≤ c ∧ c ≤ ray ∧ a = .int .i64 c ∧ Below w.heap.size w wr ∧ Blk wr w.heap.size 83 #[.string s, .int .i64 sx, .int .i64 sy, .int .i64 z, .int .i64 r, .int .i64 g, .int .i64 st, .int .i64 wd]) (fun a _ => (4 * r - intOf a).toNat)
                    case atStart => exact ⟨0, by omega, by omega, rfl, HB.out, Hq.out⟩
                    case round =>
                      clear HB Hq
                      obtain ⟨c, cc0, cc1, rfl, hbw, hbq⟩ := hrel
                      have HB := hide hbw
                      have Hq := hide hbq
                      clear hbw hbq
                      obtain ⟨q0, q1, q2, q3, q4, q5, q6, q7⟩ := Hq.out.site8
                      have lts := Hq.out.lt
                      have hlt2 : c < 4 * r := by omega
                      have hsc := fun W => Hsec.out W c cc0 hlt2
                      by_cases hray : c = ray
                      · rw [show sectorB r c dx dy = true by rw [hray]; exact Hry.out] at hsc
                        have hrr : res = ((c, k), 0) := by rw [HR2.out hkg, hray, HK.out]
                        clear hray
                        have Hsc := hide hsc
                        have Hrr := hide hrr
                        clear hsc hrr
                        go_wp2_with fail
                        refine (Hsc.out _).mono ?_
                        rintro e w' ⟨rfl, rfl⟩
                        go_wp2
                        refine bodyPost_ret (v := twoE res) (by rw [Hrr.out]; simp [twoE, results, Try.results92, go_sem]) rfl ⟨rfl, HB.out⟩
                      · rw [Hun.out c cc0 hlt2 hray] at hsc
                        have Hsc := hide hsc
                        clear hsc
                        go_wp2_with fail
                        refine (Hsc.out _).mono ?_
                        rintro e w' ⟨rfl, rfl⟩
                        go_wp2
                        go_roundw
                        case rel => exact ⟨c + 1, by omega, by omega, by go_num, HB.out, Hq.out⟩
                        case measure => simp [intOf]; omega
                  have hk2 : k < gx := by omega
                  by_cases g1 : lo * lo ≤ dx * dx + dy * dy
                  · have g2 : ¬ dx * dx + dy * dy < hi * hi := fun g2 => hk (Hgk.out.1 ⟨g1, g2⟩)
                    go_wp2
                    go_roundw
                    case rel => exact ⟨k + 1, by omega, by omega, by go_num, HB.out, Hq.out⟩
                    case measure => simp [intOf]; omega
                  · go_wp2
                    go_roundw
                    case rel => exact ⟨k + 1, by omega, by omega, by go_num, HB.out, Hq.out⟩
                    case measure => simp [intOf]; omega
                · obtain rfl : k = g := by omega
                  have hrr := HR1.out (by omega)
                  have Hrr := hide hrr
                  clear hrr
                  obtain ⟨q0, q1, q2, q3, q4, q5, q6, q7⟩ := Hq.out.site8
                  have lts := Hq.out.lt
                  go_wp2
                  refine bodyPost_ret (v := twoE res) (by rw [Hrr.out]; simp [twoE, results, Try.results92, go_sem]) rfl ⟨rfl, HB.out⟩
            · have zz : (dx == 0) = true := by simpa using z1
              have zz2 : (dy == 0) = false := by simpa using z2
              have ZZ := hide zz
              have ZZ2 := hide zz2
              clear zz zz2
              clear z1 z2
              go_enter Try.func92, Try.ntmps92
              have HB := hide (Below.refl w.heap.size w)
              go_wp2_with fail
              refine at_world fun W hW => ?_
              have bq0 : Blk W w.heap.size 83 #[.string s, .int .i64 sx, .int .i64 sy, .int .i64 z, .int .i64 r, .int .i64 g, .int .i64 st, .int .i64 wd] := by rw [hW]; exact Blk.new _ _ _
              have LW : Later w W := by rw [hW]; exact ((Below.refl _ _).alloc (Nat.le_refl _) _)
              have szW : W.heap.size = w.heap.size + 1 := by rw [hW]; simp
              clear hW
              replace HB := hide (onward HB.out LW)
              have Hq := hide bq0
              clear bq0 LW szW
              refine (Hcs.out _).mono ?_
              rintro e w1 ⟨rfl, hb⟩
              replace HB := hide (onward HB.out hb)
              replace Hq := hide (blk_later Hq.out hb)
              clear hb
              obtain ⟨q0, q1, q2, q3, q4, q5, q6, q7⟩ := Hq.out.site8
              have lts := Hq.out.lt
              go_wp2_with fail
              refine (In_any _ _ _ _).mono ?_
              rintro e w' ⟨rfl, rfl⟩
              rw [g1]
              go_wp2_with fail
              refine (In_any _ _ _ _).mono ?_
              rintro e w' ⟨rfl, rfl⟩
              rw [g2]
              go_wp2_with fail
              refine (In_any _ _ _ _).mono ?_
              rintro e w' ⟨rfl, rfl⟩
              rw [g3]
              clear g1 g2 g3
              go_wp2_with fail
              apply wp_region_L (w0 := w1) [[], [], [], [], [], [], [], [], [], []] [true, true, true, true, true, true, true, true, true, true] [] (fun ixq y => match ixq with  | _ => undef) (fun ixq x F wq => match ixq with  | _ => True) (fun a x => a) (by kernel_rfl) (by kernel_rfl) (fun _ => rfl) [] (by kernel_rfl)
              · intro x D hD
                have hne := hD.some
                have k1 := liftB hD q1 (by first | assumption | omega)
                have k2 := liftB hD q2 (by first | assumption | omega)
                simp only [takeOps, Act.put, List.setIfInBounds_toArray, List.set_cons_succ, List.set_cons_zero]
                repeat (go_big_quiet_step (fail))
                exact wpQuiet_nil rfl
              · exact fun _ h => absurd h (by simp)
              · exact trivial
              · exact trivial
              intro xx w2 F hL hlv4
              clear hlv4
              clear q0 q1 q2 q3 q4 q5 q6 q7 lts
              replace HB := hide (onward HB.out hL)
              replace Hq := hide (blk_later Hq.out hL)
              clear hL
              simp only [Hdx.out, Hdy.out]
              have kk := ZZ.out
              have kk2 := ZZ2.out
              go_wp2_with fail
              go_loopw [15] (fun a wr => ∃ k : Int, 0 ≤ k ∧ k ≤ gx ∧ a = .int .i64 k ∧ Below w.heap.size w wr ∧ Blk wr w.heap.size 83 #[.string s, .int .i64 sx, .int .i64 sy, .int .i64 z, .int .i64 r, .int .i64 g, .int .i64 st, .int .i64 wd]) (fun a _ => (g - intOf a).toNat)
              case atStart => exact ⟨0, by omega, by omega, rfl, HB.out, Hq.out⟩
              case round =>
                clear HB Hq
                obtain ⟨k, k0, k1, rfl, hbw, hbq⟩ := hrel
                have HB := hide hbw
                have Hq := hide hbq
                clear hbw hbq
                by_cases hlt : k < g
                · obtain ⟨b5, b6⟩ := Hbo.out k k0 (by omega)
                  obtain ⟨e5, e6⟩ := Hbo.out (k + 1) (by omega) (by omega)
                  have hc1 := fun W => Hbd.out W k k0 (by omega)
                  have hc2 := fun W => Hbd.out W (k + 1) (by omega) (by omega)
                  have hgk := Hgx.out k k0 hlt
                  generalize bord st t k = lo at *
                  generalize bord st t (k + 1) = hi at *
                  obtain ⟨sl1, sl2⟩ := mul_bdB b5 b6 b5 b6
                  obtain ⟨sh1, sh2⟩ := mul_bdB e5 e6 e5 e6
                  have Hgk := hide hgk
                  have C1 := hide hc1
                  have C2 := hide hc2
                  clear hgk hc1 hc2
                  obtain ⟨q0, q1, q2, q3, q4, q5, q6, q7⟩ := Hq.out.site8
                  have lts := Hq.out.lt
                  go_wp2_with fail
                  apply wp_region_L (w0 := wr) [[], [], [], [], [], [], [], [], [], [], []] [true, true, true, true, true, true, true, true, true, true, true] [] (fun ixq y => match ixq with  | _ => undef) (fun ixq x F wq => match ixq with  | _ => True) (fun a x => a) (by kernel_rfl) (by kernel_rfl) (fun _ => rfl) [67, 72] (by kernel_rfl)
                  · intro x D hD
                    have hne := hD.some
                    have k0 := liftB hD q0 (by first | assumption | omega)
                    have k1 := liftB hD q1 (by first | assumption | omega)
                    have k2 := liftB hD q2 (by first | assumption | omega)
                    have k3 := liftB hD q3 (by first | assumption | omega)
                    have k4 := liftB hD q4 (by first | assumption | omega)
                    have k5 := liftB hD q5 (by first | assumption | omega)
                    have k6 := liftB hD q6 (by first | assumption | omega)
                    have k7 := liftB hD q7 (by first | assumption | omega)
                    simp only [takeOps, Act.put, List.setIfInBounds_toArray, List.set_cons_succ, List.set_cons_zero]
                    repeat (go_big_quiet_step ((go_at_call 108; first | (with_reducible exact calls_later hD _ (C1.out _)) | (with_reducible exact calls_later hD _ (C2.out _)))))
                    exact wpQuiet_nil rfl
                  · intro d hd x x'
                    simp only [List.mem_cons, List.not_mem_nil, or_false] at hd
                    rcases hd with rfl | rfl
                    all_goals rfl
                  · exact trivial
                  · exact trivial
                  intro xx w5 F hL hlv5
                  clear hlv5
                  clear q0 q1 q2 q3 q4 q5 q6 q7 lts
                  replace HB := hide (onward HB.out hL)
                  replace Hq := hide (blk_later Hq.out hL)
                  clear hL
                  by_cases hk : k = gx
                  · obtain ⟨g1, g2⟩ := Hgk.out.2 hk
                    have HK := hide hk
                    have hkg : gx < g := by omega
                    clear hk
                    go_wp2_with fail
                    go_loopw [18] (fun a wr => ∃ c : Int, 0 ≤ c ∧ c ≤ ray ∧ a = .int .i64 c ∧ Below w.heap.size w wr ∧ Blk wr w.heap.size 83 #[.string s, .int .i64 sx, .int .i64 sy, .int .i64 z, .int .i64 r, .int .i64 g, .int .i64 st, .int .i64 wd]) (fun a _ => (4 * r - intOf a).toNat)
                    case atStart => exact ⟨0, by omega, by omega, rfl, HB.out, Hq.out⟩
                    case round =>
                      clear HB Hq
                      obtain ⟨c, cc0, cc1, rfl, hbw, hbq⟩ := hrel
                      have HB := hide hbw
                      have Hq := hide hbq
                      clear hbw hbq
                      obtain ⟨q0, q1, q2, q3, q4, q5, q6, q7⟩ := Hq.out.site8
                      have lts := Hq.out.lt
                      have hlt2 : c < 4 * r := by omega
                      have hsc := fun W => Hsec.out W c cc0 hlt2
                      by_cases hray : c = ray
                      · rw [show sectorB r c dx dy = true by rw [hray]; exact Hry.out] at hsc
                        have hrr : res = ((c, k), 0) := by rw [HR2.out hkg, hray, HK.out]
                        clear hray
                        have Hsc := hide hsc
                        have Hrr := hide hrr
                        clear hsc hrr
                        go_wp2_with fail
                        refine (Hsc.out _).mono ?_
                        rintro e w' ⟨rfl, rfl⟩
                        go_wp2
                        refine bodyPost_ret (v := twoE res) (by rw [Hrr.out]; simp [twoE, results, Try.results92, go_sem]) rfl ⟨rfl, HB.out⟩
                      · rw [Hun.out c cc0 hlt2 hray] at hsc
                        have Hsc := hide hsc
                        clear hsc
                        go_wp2_with fail
                        refine (Hsc.out _).mono ?_
                        rintro e w' ⟨rfl, rfl⟩
                        go_wp2
                        go_roundw
                        case rel => exact ⟨c + 1, by omega, by omega, by go_num, HB.out, Hq.out⟩
                        case measure => simp [intOf]; omega
                  have hk2 : k < gx := by omega
                  by_cases g1 : lo * lo ≤ dx * dx + dy * dy
                  · have g2 : ¬ dx * dx + dy * dy < hi * hi := fun g2 => hk (Hgk.out.1 ⟨g1, g2⟩)
                    go_wp2
                    go_roundw
                    case rel => exact ⟨k + 1, by omega, by omega, by go_num, HB.out, Hq.out⟩
                    case measure => simp [intOf]; omega
                  · go_wp2
                    go_roundw
                    case rel => exact ⟨k + 1, by omega, by omega, by go_num, HB.out, Hq.out⟩
                    case measure => simp [intOf]; omega
                · obtain rfl : k = g := by omega
                  have hrr := HR1.out (by omega)
                  have Hrr := hide hrr
                  clear hrr
                  obtain ⟨q0, q1, q2, q3, q4, q5, q6, q7⟩ := Hq.out.site8
                  have lts := Hq.out.lt
                  go_wp2
                  refine bodyPost_ret (v := twoE res) (by rw [Hrr.out]; simp [twoE, results, Try.results92, go_sem]) rfl ⟨rfl, HB.out⟩
        · have g4 : winBQ y (-4194304) 4194304 = false := by simpa using g3
          rw [if_neg (by rw [g4]; simp)] at hR
          have HR := hide hR
          clear hR
          clear g3
          go_enter Try.func92, Try.ntmps92
          have HB := hide (Below.refl w.heap.size w)
          go_wp2_with fail
          refine at_world fun W hW => ?_
          have bq0 : Blk W w.heap.size 83 #[.string s, .int .i64 sx, .int .i64 sy, .int .i64 z, .int .i64 r, .int .i64 g, .int .i64 st, .int .i64 wd] := by rw [hW]; exact Blk.new _ _ _
          have LW : Later w W := by rw [hW]; exact ((Below.refl _ _).alloc (Nat.le_refl _) _)
          have szW : W.heap.size = w.heap.size + 1 := by rw [hW]; simp
          clear hW
          replace HB := hide (onward HB.out LW)
          have Hq := hide bq0
          clear bq0 LW szW
          refine (Hcs.out _).mono ?_
          rintro e w1 ⟨rfl, hb⟩
          replace HB := hide (onward HB.out hb)
          replace Hq := hide (blk_later Hq.out hb)
          clear hb
          obtain ⟨q0, q1, q2, q3, q4, q5, q6, q7⟩ := Hq.out.site8
          have lts := Hq.out.lt
          go_wp2_with fail
          refine (In_any _ _ _ _).mono ?_
          rintro e w' ⟨rfl, rfl⟩
          rw [g1]
          go_wp2_with fail
          refine (In_any _ _ _ _).mono ?_
          rintro e w' ⟨rfl, rfl⟩
          rw [g2]
          go_wp2_with fail
          refine (In_any _ _ _ _).mono ?_
          rintro e w' ⟨rfl, rfl⟩
          rw [g4]
          go_wp2
          refine bodyPost_ret (v := twoE res) (by rw [HR.out]; simp [twoE, results, Try.results92, go_sem]) rfl ⟨rfl, HB.out⟩
      · have g3 : winBQ x (-4194304) 4194304 = false := by simpa using g2
        rw [if_neg (by rw [g3]; simp)] at hR
        have HR := hide hR
        clear hR
        clear g2
        go_enter Try.func92, Try.ntmps92
        have HB := hide (Below.refl w.heap.size w)
        go_wp2_with fail
        refine at_world fun W hW => ?_
        have bq0 : Blk W w.heap.size 83 #[.string s, .int .i64 sx, .int .i64 sy, .int .i64 z, .int .i64 r, .int .i64 g, .int .i64 st, .int .i64 wd] := by rw [hW]; exact Blk.new _ _ _
        have LW : Later w W := by rw [hW]; exact ((Below.refl _ _).alloc (Nat.le_refl _) _)
        have szW : W.heap.size = w.heap.size + 1 := by rw [hW]; simp
        clear hW
        replace HB := hide (onward HB.out LW)
        have Hq := hide bq0
        clear bq0 LW szW
        refine (Hcs.out _).mono ?_
        rintro e w1 ⟨rfl, hb⟩
        replace HB := hide (onward HB.out hb)
        replace Hq := hide (blk_later Hq.out hb)
        clear hb
        obtain ⟨q0, q1, q2, q3, q4, q5, q6, q7⟩ := Hq.out.site8
        have lts := Hq.out.lt
        go_wp2_with fail
        refine (In_any _ _ _ _).mono ?_
        rintro e w' ⟨rfl, rfl⟩
        rw [g1]
        go_wp2_with fail
        refine (In_any _ _ _ _).mono ?_
        rintro e w' ⟨rfl, rfl⟩
        rw [g3]
        go_wp2
        refine bodyPost_ret (v := twoE res) (by rw [HR.out]; simp [twoE, results, Try.results92, go_sem]) rfl ⟨rfl, HB.out⟩
    · have g3 : winBQ t 0 256 = false := by simpa using g1
      rw [if_neg (by rw [g3]; simp)] at hR
      have HR := hide hR
      clear hR
      clear g1
      go_enter Try.func92, Try.ntmps92
      have HB := hide (Below.refl w.heap.size w)
      go_wp2_with fail
      refine at_world fun W hW => ?_
      have bq0 : Blk W w.heap.size 83 #[.string s, .int .i64 sx, .int .i64 sy, .int .i64 z, .int .i64 r, .int .i64 g, .int .i64 st, .int .i64 wd] := by rw [hW]; exact Blk.new _ _ _
      have LW : Later w W := by rw [hW]; exact ((Below.refl _ _).alloc (Nat.le_refl _) _)
      have szW : W.heap.size = w.heap.size + 1 := by rw [hW]; simp
      clear hW
      replace HB := hide (onward HB.out LW)
      have Hq := hide bq0
      clear bq0 LW szW
      refine (Hcs.out _).mono ?_
      rintro e w1 ⟨rfl, hb⟩
      replace HB := hide (onward HB.out hb)
      replace Hq := hide (blk_later Hq.out hb)
      clear hb
      obtain ⟨q0, q1, q2, q3, q4, q5, q6, q7⟩ := Hq.out.site8
      have lts := Hq.out.lt
      go_wp2_with fail
      refine (In_any _ _ _ _).mono ?_
      rintro e w' ⟨rfl, rfl⟩
      rw [g3]
      go_wp2
      refine bodyPost_ret (v := twoE res) (by rw [HR.out]; simp [twoE, results, Try.results92, go_sem]) rfl ⟨rfl, HB.out⟩
  · rw [if_pos h0] at hR
    have h00 : (er != 0) = true := by simpa [bne] using h0
    have HR := hide hR
    clear hR
    go_enter Try.func92, Try.ntmps92
    have HB := hide (Below.refl w.heap.size w)
    go_wp2_with fail
    refine at_world fun W hW => ?_
    have bq0 : Blk W w.heap.size 83 #[.string s, .int .i64 sx, .int .i64 sy, .int .i64 z, .int .i64 r, .int .i64 g, .int .i64 st, .int .i64 wd] := by rw [hW]; exact Blk.new _ _ _
    have LW : Later w W := by rw [hW]; exact ((Below.refl _ _).alloc (Nat.le_refl _) _)
    have szW : W.heap.size = w.heap.size + 1 := by rw [hW]; simp
    clear hW
    replace HB := hide (onward HB.out LW)
    have Hq := hide bq0
    clear bq0 LW szW
    refine (Hcs.out _).mono ?_
    rintro e w1 ⟨rfl, hb⟩
    replace HB := hide (onward HB.out hb)
    replace Hq := hide (blk_later Hq.out hb)
    clear hb
    obtain ⟨q0, q1, q2, q3, q4, q5, q6, q7⟩ := Hq.out.site8
    have lts := Hq.out.lt
    go_wp2
    refine bodyPost_ret (v := twoE res) (by rw [HR.out]; simp [twoE, results, Try.results92, go_sem]) rfl ⟨rfl, HB.out⟩
end Go.Proofs.Ytllpffkifleigaa
end
