/-
  The quotient of two words by one.
-/
import Derived.Test.YtllpffkifleigaaWdBig
import Derived.WalkMore
import Derived.Laws.Bits64b
set_option linter.unusedSimpArgs false
set_option linter.unusedVariables false
namespace Go.Proofs.Ytllpffkifleigaa
open Go Go.RowKit

theorem bit_bd : ∀ (n x : Nat), x ≤ n → 0 < x → x < 2 ^ 64 → 1 ≤ Lib.bitLen x ∧ 2 ^ (Lib.bitLen x - 1) ≤ x ∧ x < 2 ^ Lib.bitLen x
  | 0, x, h, h0, _ => by omega
  | n + 1, x, h, h0, h1 => by
    have e := Lib.bitLen_half x (by omega) h1
    by_cases h2 : x / 2 = 0
    · have hx : x = 1 := by omega
      subst hx
      decide
    · obtain ⟨a, b, c⟩ := bit_bd n (x / 2) (by omega) (by omega) (by omega)
      rw [e]
      generalize Lib.bitLen (x / 2) = k at *
      refine ⟨by omega, ?_, ?_⟩
      · rw [show 1 + k - 1 = (k - 1) + 1 by omega, Nat.pow_succ]; omega
      · rw [show 1 + k = k + 1 by omega, Nat.pow_succ]; omega
/-- The numbers of the division, brought to the full width. -/
structure NormD (hi lo y s S Y H LH V : Nat) : Prop where
  Y1 : 9223372036854775808 ≤ Y
  Y2 : Y < 18446744073709551616
  eY : y * S = Y
  S0 : 0 < S
  eH : hi * S = H
  H1 : H < 18446744073709551616
  or_ : H ||| LH = H + LH
  U1 : H + LH < Y
  V1 : V < 18446744073709551616
  eN : (hi * 18446744073709551616 + lo) * S = (H + LH) * 18446744073709551616 + V
theorem norm_div {hi lo y s : Nat} (h1 : hi < y) (l1 : lo < 18446744073709551616) (hs : s ≤ 63) (y1 : 9223372036854775808 ≤ y * 2 ^ s) (y2 : y * 2 ^ s < 18446744073709551616) : NormD hi lo y s (2 ^ s) (y * 2 ^ s) (hi * 2 ^ s) (lo / 2 ^ (64 - s)) (lo * 2 ^ s % 18446744073709551616) := by
  have hp : 2 ^ s * 2 ^ (64 - s) = 18446744073709551616 := by rw [← Nat.pow_add, show s + (64 - s) = 64 by omega]
  have hS : 0 < 2 ^ s := Nat.two_pow_pos s
  have hT : 0 < 2 ^ (64 - s) := Nat.two_pow_pos _
  have hL : lo / 2 ^ (64 - s) < 2 ^ s := (Nat.div_lt_iff_lt_mul hT).2 (by rw [hp]; exact l1)
  have hH : (hi + 1) * 2 ^ s ≤ y * 2 ^ s := Nat.mul_le_mul_right _ h1
  have hd : lo * 2 ^ s / 18446744073709551616 = lo / 2 ^ (64 - s) := by
    rw [← hp, Nat.mul_comm (2 ^ s), Nat.mul_div_mul_right _ _ hS]
  have hor : hi * 2 ^ s ||| lo / 2 ^ (64 - s) = hi * 2 ^ s + lo / 2 ^ (64 - s) := by
    rw [← Nat.shiftLeft_eq, Nat.shiftLeft_add_eq_or_of_lt hL]
  have hm := Nat.div_add_mod (lo * 2 ^ s) 18446744073709551616
  rw [hd] at hm
  have e : (hi + 1) * 2 ^ s = hi * 2 ^ s + 2 ^ s := by rw [Nat.add_mul, Nat.one_mul]
  refine ⟨y1, y2, rfl, hS, rfl, by omega, hor, by omega, Nat.mod_lt _ (by decide), ?_⟩
  rw [Nat.add_mul]
  have e2 : hi * 18446744073709551616 * 2 ^ s = hi * 2 ^ s * 18446744073709551616 := by rw [Nat.mul_assoc, Nat.mul_assoc, Nat.mul_comm 18446744073709551616]
  rw [e2]
  omega
set_option maxRecDepth 1000000 in
noncomputable def dlp1C : Code := ((loopsOf ((Try.f116.body).getD .skip))[0]?).getD .skip
set_option maxHeartbeats 8000000 in
set_option maxRecDepth 1000000 in
theorem dlp1 {kc0 kc1 kc2 kc3 kc4 kc5 kc6 kc7 kc8 kc11 kc12 kc14 kc17 kc18 kc19 kc20 kc21 kc22 kc23 kc24 kc25 kc26 kc27 kc28 kc29 kc30 kc31 kc32 kc33 kc34 kc35 kc36 kc37 kc38 kc39 kc40 kc41 kc42 kc43 kc44 kc45 kc46 kc47 kc48 kc49 kc50 kc51 kc52 kc53 kc54 kc55 kc56 kc57 kc58 kc59 kc60 kc61 kc62 kc63 kc64 kc65 kc66 ku67 ku68 ku69 ku70 ku71 ku72 ku73 ku74 ku75 ku76 ku77 ku78 ku79 ku80 ku81 ku82 ku83 ku84 ku85 kc86 kc87 kc88 kc89 kc90 kc91 kc92 kc93 kc94 kc95 kc96 kc97 kc98 kc99 kc100 kc101 kc102 kc103 kc104 kc105 kc106 kc107 kc108 kc109 kc110 kc111 kc112 kc113 kc114 kc115 kc116 kc117 kc118 kc119 kc120 kc121 kc122 kc123 kc124 kc125 kc126 kc127 kc128 kc129 kc130 kc131 kc132 kc133 kc134 : Value} (yn1 yn0 u un1 q0 r0 : Nat) (Y1 Y0 N1 Q0 R0 Z : Int) (hD : DivS yn1 yn0 u un1 q0 r0) (hr : r0 < 4294967296) (eY1 : Y1 = (yn1 : Int)) (eY0 : Y0 = (yn0 : Int)) (eN1 : N1 = (un1 : Int)) (eQ0 : Q0 = (q0 : Int)) (eR0 : R0 = (r0 : Int)) (eZ : Z = (((u * 4294967296 + un1) / (yn1 * 4294967296 + yn0) : Nat) : Int)) {Q : Exit → Act → World → Prop} {wr : World} 
    (hexit : ∀ ⦃kv16 kv67 kv68 kv69 kv70 kv71 kv72 kv73 kv74 kv75 kv76 kv77 kv78 kv79 kv80 kv81 kv82 kv83 kv84 kv85 : Value⦄  ⦃w2 : World⦄, w2 = wr → Q (.exit 0) ⟨List.toArray (kc0 :: kc1 :: kc2 :: kc3 :: kc4 :: kc5 :: kc6 :: kc7 :: kc8 :: .int .u64 Y1 :: .int .u64 Y0 :: kc11 :: kc12 :: .int .u64 N1 :: kc14 :: .int .u64 Z :: kv16 :: kc17 :: kc18 :: kc19 :: kc20 :: kc21 :: kc22 :: kc23 :: kc24 :: kc25 :: kc26 :: kc27 :: kc28 :: kc29 :: kc30 :: kc31 :: kc32 :: kc33 :: kc34 :: kc35 :: kc36 :: kc37 :: kc38 :: kc39 :: kc40 :: kc41 :: kc42 :: kc43 :: kc44 :: kc45 :: kc46 :: kc47 :: kc48 :: kc49 :: kc50 :: kc51 :: kc52 :: kc53 :: kc54 :: kc55 :: kc56 :: kc57 :: kc58 :: kc59 :: kc60 :: kc61 :: kc62 :: kc63 :: kc64 :: kc65 :: kc66 :: kv67 :: kv68 :: kv69 :: kv70 :: kv71 :: kv72 :: kv73 :: kv74 :: kv75 :: kv76 :: kv77 :: kv78 :: kv79 :: kv80 :: kv81 :: kv82 :: kv83 :: kv84 :: kv85 :: kc86 :: kc87 :: kc88 :: kc89 :: kc90 :: kc91 :: kc92 :: kc93 :: kc94 :: kc95 :: kc96 :: kc97 :: kc98 :: kc99 :: kc100 :: kc101 :: kc102 :: kc103 :: kc104 :: kc105 :: kc106 :: kc107 :: kc108 :: kc109 :: kc110 :: kc111 :: kc112 :: kc113 :: kc114 :: kc115 :: kc116 :: kc117 :: kc118 :: kc119 :: kc120 :: kc121 :: kc122 :: kc123 :: kc124 :: kc125 :: kc126 :: kc127 :: kc128 :: kc129 :: kc130 :: kc131 :: kc132 :: kc133 :: kc134 :: []), []⟩ w2) :
    Code.wp Try.prog dlp1C Q ⟨List.toArray (kc0 :: kc1 :: kc2 :: kc3 :: kc4 :: kc5 :: kc6 :: kc7 :: kc8 :: .int .u64 Y1 :: .int .u64 Y0 :: kc11 :: kc12 :: .int .u64 N1 :: kc14 :: .int .u64 Q0 :: .int .u64 R0 :: kc17 :: kc18 :: kc19 :: kc20 :: kc21 :: kc22 :: kc23 :: kc24 :: kc25 :: kc26 :: kc27 :: kc28 :: kc29 :: kc30 :: kc31 :: kc32 :: kc33 :: kc34 :: kc35 :: kc36 :: kc37 :: kc38 :: kc39 :: kc40 :: kc41 :: kc42 :: kc43 :: kc44 :: kc45 :: kc46 :: kc47 :: kc48 :: kc49 :: kc50 :: kc51 :: kc52 :: kc53 :: kc54 :: kc55 :: kc56 :: kc57 :: kc58 :: kc59 :: kc60 :: kc61 :: kc62 :: kc63 :: kc64 :: kc65 :: kc66 :: ku67 :: ku68 :: ku69 :: ku70 :: ku71 :: ku72 :: ku73 :: ku74 :: ku75 :: ku76 :: ku77 :: ku78 :: ku79 :: ku80 :: ku81 :: ku82 :: ku83 :: ku84 :: ku85 :: kc86 :: kc87 :: kc88 :: kc89 :: kc90 :: kc91 :: kc92 :: kc93 :: kc94 :: kc95 :: kc96 :: kc97 :: kc98 :: kc99 :: kc100 :: kc101 :: kc102 :: kc103 :: kc104 :: kc105 :: kc106 :: kc107 :: kc108 :: kc109 :: kc110 :: kc111 :: kc112 :: kc113 :: kc114 :: kc115 :: kc116 :: kc117 :: kc118 :: kc119 :: kc120 :: kc121 :: kc122 :: kc123 :: kc124 :: kc125 :: kc126 :: kc127 :: kc128 :: kc129 :: kc130 :: kc131 :: kc132 :: kc133 :: kc134 :: []), []⟩ wr := by
  have HX := hide hexit
  clear hexit
  unfold dlp1C
  conv => arg 2; whnf
  have HD := hide hD
  have EY1 := hide eY1
  have EY0 := hide eY0
  have EN1 := hide eN1
  have EZ := hide eZ
  have EQ0 := hide eQ0
  have ER0 := hide eR0
  clear eY1 eY0 eN1 eZ eQ0 eR0
  have Hr := hide hr
  clear hD hr
  go_loopw [15, 16] (fun qv rv w9 => ∃ (q r : Nat) (Q R : Int), qv = .int .u64 Q ∧ rv = .int .u64 R ∧ Q = (q : Int) ∧ R = (r : Int) ∧ r < 4294967296 ∧ DivS yn1 yn0 u un1 q r ∧ w9 = wr) (fun _ rv _ => 4294967296 - (intOf rv).toNat)
  case atStart => exact ⟨q0, r0, Q0, R0, rfl, rfl, EQ0.out, ER0.out, Hr.out, HD.out, rfl⟩
  case round =>
    obtain ⟨q, r, Q, R, rfl, rfl, hQ, hR, hrr, hDD, rfl⟩ := hrel
    have HQ := hide hQ
    have HR := hide hR
    have HDD := hide hDD
    have b1 : 0 ≤ Q ∧ Q ≤ 4294967297 := by have := hDD.q1; omega
    have b2 : 0 ≤ R ∧ R < 4294967296 := by omega
    have b3 : 2147483648 ≤ Y1 ∧ Y1 < 4294967296 := by have := hDD.a1; have := hDD.a2; have := EY1.out; omega
    have b4 : 0 ≤ N1 ∧ N1 < 4294967296 := by have := hDD.a4; have := EN1.out; omega
    obtain ⟨b11, b12⟩ := b1
    obtain ⟨b21, b22⟩ := b2
    obtain ⟨b31, b32⟩ := b3
    obtain ⟨b41, b42⟩ := b4
    obtain ⟨m, hme⟩ : ∃ m : Int, ((q * yn0 : Nat) : Int) = m := ⟨_, rfl⟩
    have hme2 : IntKind.u64.wrap (Q * Y0) = m := by
      have := hDD.bd
      rw [← hme, IntKind.wrap_u64, hQ, EY0.out, ← Int.natCast_mul]
      omega
    have Hme := hide hme
    have key1 : 4294967296 ≤ Q ∨ 4294967296 * R + N1 < m → 1 ≤ Q ∧ ∃ q' : Nat, Q - 1 = (q' : Int) ∧ DivS yn1 yn0 u un1 q' (r + yn1) ∧ (4294967296 ≤ R + Y1 → Q - 1 = Z) := fun h => by
      have h2 : 4294967296 ≤ q ∨ r * 4294967296 + un1 < q * yn0 := by
        rcases h with h | h
        · exact .inl (by omega)
        · refine .inr ?_
          have := EN1.out
          omega
      obtain ⟨k1, k2⟩ := HDD.out.go h2
      refine ⟨by have := HQ.out; omega, q - 1, by have := HQ.out; omega, k2, fun h3 => ?_⟩
      have e := k2.stop2 (by have := HDD.out.q1; omega) (by have := HR.out; have := EY1.out; omega)
      have := EZ.out
      have := HQ.out
      omega
    have key2 : ¬ 4294967296 * R + N1 < m → Q = Z := fun h => by
      have e := HDD.out.stop1 (by have := EN1.out; have := HR.out; have := Hme.out; omega)
      rw [EZ.out, ← e]
      exact HQ.out
    clear hme hQ hR hrr hDD
    have Key1 := hide key1
    have Key2 := hide key2
    clear key1 key2
    by_cases g1 : 4294967296 ≤ Q
    · have g1x : True := trivial
      obtain ⟨hq1, q', hq', hd', hz'⟩ := Key1.out (.inl g1)
      have Hq' := hide hq'
      have Hd' := hide hd'
      clear hq' hd'
      by_cases g3 : 4294967296 ≤ R + Y1
      · obtain rfl := hz' g3
        go_wp2_with fail
        exact HX.out (by first | rfl | trivial)
      · have HR2 := hide (show R + Y1 = ((r + yn1 : Nat) : Int) by have := HR.out; have := EY1.out; omega)
        have HR3 := hide (show r + yn1 < 4294967296 by have := HR.out; have := EY1.out; omega)
        clear hz'
        go_wp2_with fail
        go_roundw
        case rel => exact ⟨q', r + yn1, _, _, rfl, rfl, Hq'.out, HR2.out, HR3.out, Hd'.out, by first | rfl | trivial⟩
        case measure => simp [intOf] <;> omega
    · by_cases g2 : 4294967296 * R + N1 < m
      · have g1x : True := trivial
        obtain ⟨hq1, q', hq', hd', hz'⟩ := Key1.out (.inr g2)
        have Hq' := hide hq'
        have Hd' := hide hd'
        clear hq' hd'
        by_cases g3 : 4294967296 ≤ R + Y1
        · obtain rfl := hz' g3
          go_wp2_with fail
          exact HX.out (by first | rfl | trivial)
        · have HR2 := hide (show R + Y1 = ((r + yn1 : Nat) : Int) by have := HR.out; have := EY1.out; omega)
          have HR3 := hide (show r + yn1 < 4294967296 by have := HR.out; have := EY1.out; omega)
          clear hz'
          go_wp2_with fail
          go_roundw
          case rel => exact ⟨q', r + yn1, _, _, rfl, rfl, Hq'.out, HR2.out, HR3.out, Hd'.out, by first | rfl | trivial⟩
          case measure => simp [intOf] <;> omega
      · obtain rfl := Key2.out g2
        go_wp2_with fail
        exact HX.out (by first | rfl | trivial)
set_option maxRecDepth 1000000 in
noncomputable def dlp2C : Code := ((loopsOf ((Try.f116.body).getD .skip))[1]?).getD .skip
set_option maxHeartbeats 8000000 in
set_option maxRecDepth 1000000 in
theorem dlp2 {kc0 kc1 kc2 kc3 kc4 kc5 kc6 kc7 kc8 kc11 kc12 kc13 kc15 kc17 kc19 kc20 kc21 kc22 kc23 kc24 kc25 kc26 kc27 kc28 kc29 kc30 kc31 kc32 kc33 kc34 kc35 kc36 kc37 kc38 kc39 kc40 kc41 kc42 kc43 kc44 kc45 kc46 kc47 kc48 kc49 kc50 kc51 kc52 kc53 kc54 kc55 kc56 kc57 kc58 kc59 kc60 kc61 kc62 kc63 kc64 kc65 kc66 kc67 kc68 kc69 kc70 kc71 kc72 kc73 kc74 kc75 kc76 kc77 kc78 kc79 kc80 kc81 kc82 kc83 kc84 kc85 kc86 kc87 kc88 kc89 kc90 kc91 kc92 kc93 kc94 kc95 kc96 kc97 kc98 kc99 kc100 kc101 ku102 ku103 ku104 ku105 ku106 ku107 ku108 ku109 ku110 ku111 ku112 ku113 ku114 ku115 ku116 ku117 ku118 ku119 ku120 kc121 kc122 kc123 kc124 kc125 kc126 kc127 kc128 kc129 kc130 kc131 kc132 kc133 kc134 : Value} (yn1 yn0 u un1 q0 r0 : Nat) (Y1 Y0 N1 Q0 R0 Z : Int) (hD : DivS yn1 yn0 u un1 q0 r0) (hr : r0 < 4294967296) (eY1 : Y1 = (yn1 : Int)) (eY0 : Y0 = (yn0 : Int)) (eN1 : N1 = (un1 : Int)) (eQ0 : Q0 = (q0 : Int)) (eR0 : R0 = (r0 : Int)) (eZ : Z = (((u * 4294967296 + un1) / (yn1 * 4294967296 + yn0) : Nat) : Int)) {Q : Exit → Act → World → Prop} {wr : World} 
    (hexit : ∀ ⦃kv16 kv102 kv103 kv104 kv105 kv106 kv107 kv108 kv109 kv110 kv111 kv112 kv113 kv114 kv115 kv116 kv117 kv118 kv119 kv120 : Value⦄  ⦃w2 : World⦄, w2 = wr → Q (.exit 2) ⟨List.toArray (kc0 :: kc1 :: kc2 :: kc3 :: kc4 :: kc5 :: kc6 :: kc7 :: kc8 :: .int .u64 Y1 :: .int .u64 Y0 :: kc11 :: kc12 :: kc13 :: .int .u64 N1 :: kc15 :: kv16 :: kc17 :: .int .u64 Z :: kc19 :: kc20 :: kc21 :: kc22 :: kc23 :: kc24 :: kc25 :: kc26 :: kc27 :: kc28 :: kc29 :: kc30 :: kc31 :: kc32 :: kc33 :: kc34 :: kc35 :: kc36 :: kc37 :: kc38 :: kc39 :: kc40 :: kc41 :: kc42 :: kc43 :: kc44 :: kc45 :: kc46 :: kc47 :: kc48 :: kc49 :: kc50 :: kc51 :: kc52 :: kc53 :: kc54 :: kc55 :: kc56 :: kc57 :: kc58 :: kc59 :: kc60 :: kc61 :: kc62 :: kc63 :: kc64 :: kc65 :: kc66 :: kc67 :: kc68 :: kc69 :: kc70 :: kc71 :: kc72 :: kc73 :: kc74 :: kc75 :: kc76 :: kc77 :: kc78 :: kc79 :: kc80 :: kc81 :: kc82 :: kc83 :: kc84 :: kc85 :: kc86 :: kc87 :: kc88 :: kc89 :: kc90 :: kc91 :: kc92 :: kc93 :: kc94 :: kc95 :: kc96 :: kc97 :: kc98 :: kc99 :: kc100 :: kc101 :: kv102 :: kv103 :: kv104 :: kv105 :: kv106 :: kv107 :: kv108 :: kv109 :: kv110 :: kv111 :: kv112 :: kv113 :: kv114 :: kv115 :: kv116 :: kv117 :: kv118 :: kv119 :: kv120 :: kc121 :: kc122 :: kc123 :: kc124 :: kc125 :: kc126 :: kc127 :: kc128 :: kc129 :: kc130 :: kc131 :: kc132 :: kc133 :: kc134 :: []), []⟩ w2) :
    Code.wp Try.prog dlp2C Q ⟨List.toArray (kc0 :: kc1 :: kc2 :: kc3 :: kc4 :: kc5 :: kc6 :: kc7 :: kc8 :: .int .u64 Y1 :: .int .u64 Y0 :: kc11 :: kc12 :: kc13 :: .int .u64 N1 :: kc15 :: .int .u64 R0 :: kc17 :: .int .u64 Q0 :: kc19 :: kc20 :: kc21 :: kc22 :: kc23 :: kc24 :: kc25 :: kc26 :: kc27 :: kc28 :: kc29 :: kc30 :: kc31 :: kc32 :: kc33 :: kc34 :: kc35 :: kc36 :: kc37 :: kc38 :: kc39 :: kc40 :: kc41 :: kc42 :: kc43 :: kc44 :: kc45 :: kc46 :: kc47 :: kc48 :: kc49 :: kc50 :: kc51 :: kc52 :: kc53 :: kc54 :: kc55 :: kc56 :: kc57 :: kc58 :: kc59 :: kc60 :: kc61 :: kc62 :: kc63 :: kc64 :: kc65 :: kc66 :: kc67 :: kc68 :: kc69 :: kc70 :: kc71 :: kc72 :: kc73 :: kc74 :: kc75 :: kc76 :: kc77 :: kc78 :: kc79 :: kc80 :: kc81 :: kc82 :: kc83 :: kc84 :: kc85 :: kc86 :: kc87 :: kc88 :: kc89 :: kc90 :: kc91 :: kc92 :: kc93 :: kc94 :: kc95 :: kc96 :: kc97 :: kc98 :: kc99 :: kc100 :: kc101 :: ku102 :: ku103 :: ku104 :: ku105 :: ku106 :: ku107 :: ku108 :: ku109 :: ku110 :: ku111 :: ku112 :: ku113 :: ku114 :: ku115 :: ku116 :: ku117 :: ku118 :: ku119 :: ku120 :: kc121 :: kc122 :: kc123 :: kc124 :: kc125 :: kc126 :: kc127 :: kc128 :: kc129 :: kc130 :: kc131 :: kc132 :: kc133 :: kc134 :: []), []⟩ wr := by
  have HX := hide hexit
  clear hexit
  unfold dlp2C
  conv => arg 2; whnf
  have HD := hide hD
  have EY1 := hide eY1
  have EY0 := hide eY0
  have EN1 := hide eN1
  have EZ := hide eZ
  have EQ0 := hide eQ0
  have ER0 := hide eR0
  clear eY1 eY0 eN1 eZ eQ0 eR0
  have Hr := hide hr
  clear hD hr
  go_loopw [18, 16] (fun qv rv w9 => ∃ (q r : Nat) (Q R : Int), qv = .int .u64 Q ∧ rv = .int .u64 R ∧ Q = (q : Int) ∧ R = (r : Int) ∧ r < 4294967296 ∧ DivS yn1 yn0 u un1 q r ∧ w9 = wr) (fun _ rv _ => 4294967296 - (intOf rv).toNat)
  case atStart => exact ⟨q0, r0, Q0, R0, rfl, rfl, EQ0.out, ER0.out, Hr.out, HD.out, rfl⟩
  case round =>
    obtain ⟨q, r, Q, R, rfl, rfl, hQ, hR, hrr, hDD, rfl⟩ := hrel
    have HQ := hide hQ
    have HR := hide hR
    have HDD := hide hDD
    have b1 : 0 ≤ Q ∧ Q ≤ 4294967297 := by have := hDD.q1; omega
    have b2 : 0 ≤ R ∧ R < 4294967296 := by omega
    have b3 : 2147483648 ≤ Y1 ∧ Y1 < 4294967296 := by have := hDD.a1; have := hDD.a2; have := EY1.out; omega
    have b4 : 0 ≤ N1 ∧ N1 < 4294967296 := by have := hDD.a4; have := EN1.out; omega
    obtain ⟨b11, b12⟩ := b1
    obtain ⟨b21, b22⟩ := b2
    obtain ⟨b31, b32⟩ := b3
    obtain ⟨b41, b42⟩ := b4
    obtain ⟨m, hme⟩ : ∃ m : Int, ((q * yn0 : Nat) : Int) = m := ⟨_, rfl⟩
    have hme2 : IntKind.u64.wrap (Q * Y0) = m := by
      have := hDD.bd
      rw [← hme, IntKind.wrap_u64, hQ, EY0.out, ← Int.natCast_mul]
      omega
    have Hme := hide hme
    have key1 : 4294967296 ≤ Q ∨ 4294967296 * R + N1 < m → 1 ≤ Q ∧ ∃ q' : Nat, Q - 1 = (q' : Int) ∧ DivS yn1 yn0 u un1 q' (r + yn1) ∧ (4294967296 ≤ R + Y1 → Q - 1 = Z) := fun h => by
      have h2 : 4294967296 ≤ q ∨ r * 4294967296 + un1 < q * yn0 := by
        rcases h with h | h
        · exact .inl (by omega)
        · refine .inr ?_
          have := EN1.out
          omega
      obtain ⟨k1, k2⟩ := HDD.out.go h2
      refine ⟨by have := HQ.out; omega, q - 1, by have := HQ.out; omega, k2, fun h3 => ?_⟩
      have e := k2.stop2 (by have := HDD.out.q1; omega) (by have := HR.out; have := EY1.out; omega)
      have := EZ.out
      have := HQ.out
      omega
    have key2 : ¬ 4294967296 * R + N1 < m → Q = Z := fun h => by
      have e := HDD.out.stop1 (by have := EN1.out; have := HR.out; have := Hme.out; omega)
      rw [EZ.out, ← e]
      exact HQ.out
    clear hme hQ hR hrr hDD
    have Key1 := hide key1
    have Key2 := hide key2
    clear key1 key2
    by_cases g1 : 4294967296 ≤ Q
    · have g1x : True := trivial
      obtain ⟨hq1, q', hq', hd', hz'⟩ := Key1.out (.inl g1)
      have Hq' := hide hq'
      have Hd' := hide hd'
      clear hq' hd'
      by_cases g3 : 4294967296 ≤ R + Y1
      · obtain rfl := hz' g3
        go_wp2_with fail
        exact HX.out (by first | rfl | trivial)
      · have HR2 := hide (show R + Y1 = ((r + yn1 : Nat) : Int) by have := HR.out; have := EY1.out; omega)
        have HR3 := hide (show r + yn1 < 4294967296 by have := HR.out; have := EY1.out; omega)
        clear hz'
        go_wp2_with fail
        go_roundw
        case rel => exact ⟨q', r + yn1, _, _, rfl, rfl, Hq'.out, HR2.out, HR3.out, Hd'.out, by first | rfl | trivial⟩
        case measure => simp [intOf] <;> omega
    · by_cases g2 : 4294967296 * R + N1 < m
      · have g1x : True := trivial
        obtain ⟨hq1, q', hq', hd', hz'⟩ := Key1.out (.inr g2)
        have Hq' := hide hq'
        have Hd' := hide hd'
        clear hq' hd'
        by_cases g3 : 4294967296 ≤ R + Y1
        · obtain rfl := hz' g3
          go_wp2_with fail
          exact HX.out (by first | rfl | trivial)
        · have HR2 := hide (show R + Y1 = ((r + yn1 : Nat) : Int) by have := HR.out; have := EY1.out; omega)
          have HR3 := hide (show r + yn1 < 4294967296 by have := HR.out; have := EY1.out; omega)
          clear hz'
          go_wp2_with fail
          go_roundw
          case rel => exact ⟨q', r + yn1, _, _, rfl, rfl, Hq'.out, HR2.out, HR3.out, Hd'.out, by first | rfl | trivial⟩
          case measure => simp [intOf] <;> omega
      · obtain rfl := Key2.out g2
        go_wp2_with fail
        exact HX.out (by first | rfl | trivial)
/-- The numbers that the walk meets. -/
structure DivW (yi hii li si qi ri : Int) (yn1 yn0 u un1 un0 m1 q0 r0 q2 r2 : Nat) (Yi Hi LHi Ui Vi Y1i Y0i V1i V0i Q0i R0i Z1 Mi Q2 R2 Z2 Ni P0 A1 A2 A3 P2 B1 B2 B3 : Int) : Prop where
  w1 : IntKind.u64.wrap (yi * 2 ^ si.toNat) = Yi
  w2 : Yi / 4294967296 = Y1i
  w2' : (Y1i == 0) = false
  w3 : bits .and .u64 Yi 4294967295 = Y0i
  w4 : IntKind.u64.wrap (hii * 2 ^ si.toNat) = Hi
  w5 : li / 2 ^ (64 - si).toNat = LHi
  w6 : bits .or .u64 Hi LHi = Ui
  w7 : IntKind.u64.wrap (li * 2 ^ si.toNat) = Vi
  w8 : Vi / 4294967296 = V1i
  w9 : bits .and .u64 Vi 4294967295 = V0i
  w10 : Ui.tdiv Y1i = Q0i
  w11 : IntKind.u64.wrap Q0i = Q0i
  w12 : IntKind.u64.wrap (Q0i * Y1i) = P0
  w13 : Ui - P0 = R0i
  w13' : IntKind.u64.wrap (Ui - P0) = R0i
  w14 : IntKind.u64.wrap (Ui * 4294967296) = A1
  w15 : IntKind.u64.wrap (A1 + V1i) = A2
  w16 : IntKind.u64.wrap (Z1 * Yi) = A3
  w17 : IntKind.u64.wrap (A2 - A3) = Mi
  w18 : Mi.tdiv Y1i = Q2
  w19 : IntKind.u64.wrap Q2 = Q2
  w20 : IntKind.u64.wrap (Q2 * Y1i) = P2
  w21 : Mi - P2 = R2
  w21' : IntKind.u64.wrap (Mi - P2) = R2
  w24 : IntKind.u64.wrap (Mi * 4294967296) = B1
  w25 : IntKind.u64.wrap (B1 + V0i) = B2
  w26 : IntKind.u64.wrap (Z2 * Yi) = B3
  w27 : IntKind.u64.wrap (B2 - B3) = Ni
  w28 : Ni / 2 ^ si.toNat = ri
  w23 : Z1 * 4294967296 + Z2 = qi
  bz1 : 0 ≤ Z1 ∧ Z1 < 4294967296
  bz2 : 0 ≤ Z2 ∧ Z2 < 4294967296
  bsi : 0 ≤ si ∧ si ≤ 63
  bY : 0 < Y1i
  bV : 0 ≤ V1i ∧ 0 ≤ V0i
  d1 : DivS yn1 yn0 u un1 q0 r0
  d2 : DivS yn1 yn0 m1 un0 q2 r2
  br1 : r0 < 4294967296
  br2 : r2 < 4294967296
  eY1i : Y1i = (yn1 : Int)
  eY0i : Y0i = (yn0 : Int)
  eV1i : V1i = (un1 : Int)
  eV0i : V0i = (un0 : Int)
  eQ0i : Q0i = (q0 : Int)
  eR0i : R0i = (r0 : Int)
  eQ2 : Q2 = (q2 : Int)
  eR2 : R2 = (r2 : Int)
  eZZ1 : Z1 = (((u * 4294967296 + un1) / (yn1 * 4294967296 + yn0) : Nat) : Int)
  eZZ2 : Z2 = (((m1 * 4294967296 + un0) / (yn1 * 4294967296 + yn0) : Nat) : Int)
set_option maxHeartbeats 4000000 in
theorem div_words (hi lo y : Nat) (yi hii li qi ri : Int) (h1 : hi < y) (l1 : lo < 18446744073709551616) (y1 : y < 18446744073709551616) (hyi : (y : Int) = yi) (hhi : (hi : Int) = hii) (hli : (lo : Int) = li)
    (hqi : (((hi * 18446744073709551616 + lo) / y : Nat) : Int) = qi) (hri : (((hi * 18446744073709551616 + lo) % y : Nat) : Int) = ri) :
    ∃ si : Int, 64 - (Lib.bitLen y : Int) = si ∧ ∃ (yn1 yn0 u un1 un0 m1 q0 r0 q2 r2 : Nat) (Yi Hi LHi Ui Vi Y1i Y0i V1i V0i Q0i R0i Z1 Mi Q2 R2 Z2 Ni P0 A1 A2 A3 P2 B1 B2 B3 : Int), DivW yi hii li si qi ri yn1 yn0 u un1 un0 m1 q0 r0 q2 r2 Yi Hi LHi Ui Vi Y1i Y0i V1i V0i Q0i R0i Z1 Mi Q2 R2 Z2 Ni P0 A1 A2 A3 P2 B1 B2 B3 := by
  obtain ⟨a, b, c⟩ := bit_bd y y (Nat.le_refl _) (by omega) (by omega)
  have d := Lib.bitLen_le y 64 (by omega) (by omega)
  obtain ⟨s, hs⟩ : ∃ s : Nat, 64 - Lib.bitLen y = s := ⟨_, rfl⟩
  obtain ⟨si, hsi⟩ : ∃ z : Int, (s : Int) = z := ⟨_, rfl⟩
  have hsie : (64 - (Lib.bitLen y : Int)) = si := by omega
  have hst : si.toNat = s := by omega
  have hst2 : (64 - si).toNat = 64 - s := by omega
  have hsb : s ≤ 63 := by omega
  have hsb2 : 0 ≤ si ∧ si ≤ 63 := by omega
  have p1 : 9223372036854775808 ≤ y * 2 ^ s := by
    have e : 2 ^ (Lib.bitLen y - 1) * 2 ^ s = 9223372036854775808 := by rw [← Nat.pow_add, show Lib.bitLen y - 1 + s = 63 by omega]
    rw [← e]
    exact Nat.mul_le_mul_right _ b
  have p2 : y * 2 ^ s < 18446744073709551616 := by
    have e : 2 ^ Lib.bitLen y * 2 ^ s = 18446744073709551616 := by rw [← Nat.pow_add, show Lib.bitLen y + s = 64 by omega]
    rw [← e]
    exact Nat.mul_lt_mul_of_pos_right c (Nat.two_pow_pos s)
  have N := norm_div h1 l1 hsb p1 p2
  obtain ⟨S, hS⟩ : ∃ S, 2 ^ s = S := ⟨_, rfl⟩
  have e1 : (yi * 2 ^ si.toNat : Int) = ((y * S : Nat) : Int) := by rw [hst, ← hyi, ← hS]; simp
  have e2 : (hii * 2 ^ si.toNat : Int) = ((hi * S : Nat) : Int) := by rw [hst, ← hhi, ← hS]; simp
  have e3 : (li * 2 ^ si.toNat : Int) = ((lo * S : Nat) : Int) := by rw [hst, ← hli, ← hS]; simp
  have e4 : (li / 2 ^ (64 - si).toNat : Int) = ((lo / 2 ^ (64 - s) : Nat) : Int) := by rw [hst2, ← hli]; simp
  have e5 : ∀ z : Int, z / 2 ^ si.toNat = z / (S : Int) := fun z => by rw [hst, ← hS]; simp
  rw [hS] at N
  generalize lo / 2 ^ (64 - s) = LH at *
  clear a b c d hs hst hst2 p1 p2 hS hsi
  obtain ⟨Y, hY⟩ : ∃ Y, y * S = Y := ⟨_, rfl⟩
  obtain ⟨H, hH⟩ : ∃ H, hi * S = H := ⟨_, rfl⟩
  obtain ⟨V, hV⟩ : ∃ V, lo * S % 18446744073709551616 = V := ⟨_, rfl⟩
  rw [hY, hH, hV] at N
  obtain ⟨N1, N2, N3, N4, N5, N6, N7, N8, N9, N10⟩ := N
  rw [hY] at e1
  rw [hH] at e2
  obtain ⟨u, hu⟩ : ∃ u, H + LH = u := ⟨_, rfl⟩
  rw [hu] at N8 N7 N10
  obtain ⟨yn1, hyn1⟩ : ∃ a, Y / 4294967296 = a := ⟨_, rfl⟩
  obtain ⟨yn0, hyn0⟩ : ∃ a, Y % 4294967296 = a := ⟨_, rfl⟩
  obtain ⟨un1, hun1⟩ : ∃ a, V / 4294967296 = a := ⟨_, rfl⟩
  obtain ⟨un0, hun0⟩ : ∃ a, V % 4294967296 = a := ⟨_, rfl⟩
  have hYY : yn1 * 4294967296 + yn0 = Y := by omega
  have hVV : V = un1 * 4294967296 + un0 := by omega
  have hD1 := div_first (yn1 := yn1) (yn0 := yn0) (un1 := un1) (u := u) (by omega) (by omega) (by omega) (by omega) (by omega)
  have hyn1p : 0 < yn1 := by omega
  have hYp : 0 < Y := by omega
  have hdt := div_two (y := Y) (n := (hi * 18446744073709551616 + lo) * S) (un32 := u) (un1 := un1) (un0 := un0) hYp (by rw [N10, hVV]; exact (Nat.add_assoc _ _ _).symm)
  obtain ⟨ds1, ds2⟩ := div_shift (n := hi * 18446744073709551616 + lo) (y := y) N4
  rw [hY] at ds1 ds2
  have hz1l := div_lt (yn1 := yn1) (yn0 := yn0) (u := u) (un1 := un1) (by omega) (by omega)
  have hm1 := Nat.mod_lt (u * 4294967296 + un1) hYp
  have hmd1 := Nat.div_add_mod (u * 4294967296 + un1) Y
  obtain ⟨z1, hz1⟩ : ∃ z, (u * 4294967296 + un1) / Y = z := ⟨_, rfl⟩
  obtain ⟨m1, hm1e⟩ : ∃ z, (u * 4294967296 + un1) % Y = z := ⟨_, rfl⟩
  rw [hYY, hz1] at hz1l
  rw [hz1, hm1e] at hdt hmd1
  rw [hm1e] at hm1
  have hD2 := div_first (yn1 := yn1) (yn0 := yn0) (un1 := un0) (u := m1) (by omega) (by omega) (by omega) (by omega) (by omega)
  have hz2l := div_lt (yn1 := yn1) (yn0 := yn0) (u := m1) (un1 := un0) (by omega) (by omega)
  have hm2 := Nat.mod_lt (m1 * 4294967296 + un0) hYp
  have hmd2 := Nat.div_add_mod (m1 * 4294967296 + un0) Y
  obtain ⟨z2, hz2e⟩ : ∃ z, (m1 * 4294967296 + un0) / Y = z := ⟨_, rfl⟩
  obtain ⟨m2, hm2e⟩ : ∃ z, (m1 * 4294967296 + un0) % Y = z := ⟨_, rfl⟩
  rw [hYY, hz2e] at hz2l
  rw [hz2e, hm2e] at hdt hmd2
  rw [hm2e] at hm2
  rw [ds1] at hdt
  rw [ds2] at hdt
  -- the first estimates
  have r1s := Nat.mod_add_div u yn1
  have r1l := Nat.mod_lt u hyn1p
  obtain ⟨q0, hq0⟩ : ∃ a, u / yn1 = a := ⟨_, rfl⟩
  obtain ⟨r0, hr0⟩ : ∃ a, u % yn1 = a := ⟨_, rfl⟩
  rw [hq0, hr0] at hD1 r1s
  rw [hr0] at r1l
  have r2s := Nat.mod_add_div m1 yn1
  have r2l := Nat.mod_lt m1 hyn1p
  obtain ⟨q2, hq2⟩ : ∃ a, m1 / yn1 = a := ⟨_, rfl⟩
  obtain ⟨r2, hr2⟩ : ∃ a, m1 % yn1 = a := ⟨_, rfl⟩
  rw [hq2, hr2] at hD2 r2s
  rw [hr2] at r2l
  have q0l : q0 ≤ 4294967297 := hD1.q1
  have q2l : q2 ≤ 4294967297 := hD2.q1
  obtain ⟨Yi, eYi⟩ : ∃ z : Int, (Y : Int) = z := ⟨_, rfl⟩
  obtain ⟨Hi, eHi⟩ : ∃ z : Int, (H : Int) = z := ⟨_, rfl⟩
  obtain ⟨LHi, eLHi⟩ : ∃ z : Int, (LH : Int) = z := ⟨_, rfl⟩
  obtain ⟨Ui, eUi⟩ : ∃ z : Int, (u : Int) = z := ⟨_, rfl⟩
  obtain ⟨Vi, eVi⟩ : ∃ z : Int, (V : Int) = z := ⟨_, rfl⟩
  obtain ⟨Y1i, eY1i⟩ : ∃ z : Int, (yn1 : Int) = z := ⟨_, rfl⟩
  obtain ⟨Y0i, eY0i⟩ : ∃ z : Int, (yn0 : Int) = z := ⟨_, rfl⟩
  obtain ⟨V1i, eV1i⟩ : ∃ z : Int, (un1 : Int) = z := ⟨_, rfl⟩
  obtain ⟨V0i, eV0i⟩ : ∃ z : Int, (un0 : Int) = z := ⟨_, rfl⟩
  obtain ⟨Q0i, eQ0i⟩ : ∃ z : Int, (q0 : Int) = z := ⟨_, rfl⟩
  obtain ⟨R0i, eR0i⟩ : ∃ z : Int, (r0 : Int) = z := ⟨_, rfl⟩
  obtain ⟨Z1, eZ1⟩ : ∃ z : Int, (z1 : Int) = z := ⟨_, rfl⟩
  obtain ⟨Mi, eMi⟩ : ∃ z : Int, (m1 : Int) = z := ⟨_, rfl⟩
  obtain ⟨Q2, eQ2⟩ : ∃ z : Int, (q2 : Int) = z := ⟨_, rfl⟩
  obtain ⟨R2, eR2⟩ : ∃ z : Int, (r2 : Int) = z := ⟨_, rfl⟩
  obtain ⟨Z2, eZ2⟩ : ∃ z : Int, (z2 : Int) = z := ⟨_, rfl⟩
  obtain ⟨Ni, eNi⟩ : ∃ z : Int, (m2 : Int) = z := ⟨_, rfl⟩
  have w1 : IntKind.u64.wrap (yi * 2 ^ si.toNat) = Yi := by rw [e1, eYi, IntKind.wrap_u64]; omega
  have w2 : Yi / 4294967296 = Y1i := by omega
  have w2' : (Y1i == 0) = false := beq_eq_false_iff_ne.2 (by omega)
  have w3 : bits .and .u64 Yi 4294967295 = Y0i := by rw [← eYi, Go.Proofs.Mul64.maskN Y (by omega), hyn0, eY0i]
  have w4 : IntKind.u64.wrap (hii * 2 ^ si.toNat) = Hi := by rw [e2, eHi, IntKind.wrap_u64]; omega
  have w5 : li / 2 ^ (64 - si).toNat = LHi := by rw [e4, eLHi]
  have w6 : bits .or .u64 Hi LHi = Ui := by rw [← eHi, ← eLHi, bits_or_u64_nat H LH (by omega) (by omega), N7, eUi]
  have w7 : IntKind.u64.wrap (li * 2 ^ si.toNat) = Vi := by rw [e3, IntKind.wrap_u64, ← eVi, ← hV]; omega
  have w8 : Vi / 4294967296 = V1i := by omega
  have w9 : bits .and .u64 Vi 4294967295 = V0i := by rw [← eVi, Go.Proofs.Mul64.maskN V (by omega), hun0, eV0i]
  have w10 : Ui.tdiv Y1i = Q0i := by rw [Int.tdiv_eq_ediv_of_nonneg (by omega), ← eUi, ← eY1i, ← eQ0i, ← hq0]; rfl
  have w11 : IntKind.u64.wrap Q0i = Q0i := by rw [IntKind.wrap_u64]; omega
  obtain ⟨P0, eP0⟩ : ∃ z : Int, ((yn1 * q0 : Nat) : Int) = z := ⟨_, rfl⟩
  have w12 : IntKind.u64.wrap (Q0i * Y1i) = P0 := by
    rw [← eQ0i, ← eY1i, ← Int.natCast_mul, Nat.mul_comm, ← eP0, IntKind.wrap_u64]
    generalize yn1 * q0 = t at *
    omega
  have w13 : Ui - P0 = R0i := by generalize yn1 * q0 = t at *; omega
  have w13' : IntKind.u64.wrap (Ui - P0) = R0i := by rw [w13, IntKind.wrap_u64]; omega
  obtain ⟨A1, w14⟩ : ∃ z : Int, IntKind.u64.wrap (Ui * 4294967296) = z := ⟨_, rfl⟩
  obtain ⟨A2, w15⟩ : ∃ z : Int, IntKind.u64.wrap (A1 + V1i) = z := ⟨_, rfl⟩
  obtain ⟨A3, w16⟩ : ∃ z : Int, IntKind.u64.wrap (Z1 * Yi) = z := ⟨_, rfl⟩
  have w17 : IntKind.u64.wrap (A2 - A3) = Mi := by
    have hp : Z1 * Yi = ((Y * z1 : Nat) : Int) := by rw [← eZ1, ← eYi, ← Int.natCast_mul, Nat.mul_comm]
    rw [hp] at w16
    rw [IntKind.wrap_u64] at w14 w15 w16
    rw [IntKind.wrap_u64]
    generalize Y * z1 = t at *
    omega
  have w18 : Mi.tdiv Y1i = Q2 := by rw [Int.tdiv_eq_ediv_of_nonneg (by omega), ← eMi, ← eY1i, ← eQ2, ← hq2]; rfl
  have w19 : IntKind.u64.wrap Q2 = Q2 := by rw [IntKind.wrap_u64]; omega
  obtain ⟨P2, eP2⟩ : ∃ z : Int, ((yn1 * q2 : Nat) : Int) = z := ⟨_, rfl⟩
  have w20 : IntKind.u64.wrap (Q2 * Y1i) = P2 := by
    rw [← eQ2, ← eY1i, ← Int.natCast_mul, Nat.mul_comm, ← eP2, IntKind.wrap_u64]
    generalize yn1 * q2 = t at *
    omega
  have w21 : Mi - P2 = R2 := by generalize yn1 * q2 = t at *; omega
  have w21' : IntKind.u64.wrap (Mi - P2) = R2 := by rw [w21, IntKind.wrap_u64]; omega
  obtain ⟨B1, w24⟩ : ∃ z : Int, IntKind.u64.wrap (Mi * 4294967296) = z := ⟨_, rfl⟩
  obtain ⟨B2, w25⟩ : ∃ z : Int, IntKind.u64.wrap (B1 + V0i) = z := ⟨_, rfl⟩
  obtain ⟨B3, w26⟩ : ∃ z : Int, IntKind.u64.wrap (Z2 * Yi) = z := ⟨_, rfl⟩
  have w27 : IntKind.u64.wrap (B2 - B3) = Ni := by
    have hp : Z2 * Yi = ((Y * z2 : Nat) : Int) := by rw [← eZ2, ← eYi, ← Int.natCast_mul, Nat.mul_comm]
    rw [hp] at w26
    rw [IntKind.wrap_u64] at w24 w25 w26
    rw [IntKind.wrap_u64]
    generalize Y * z2 = t at *
    omega
  have w28 : Ni / 2 ^ si.toNat = ri := by
    rw [e5, ← eNi, ← hdt.2, ← hri, ← Int.natCast_ediv, Nat.mul_div_cancel _ N4]
  have w23 : Z1 * 4294967296 + Z2 = qi := by rw [← hqi, hdt.1, ← eZ1, ← eZ2]; omega
  have bz1 : 0 ≤ Z1 ∧ Z1 < 4294967296 := by omega
  have bz2 : 0 ≤ Z2 ∧ Z2 < 4294967296 := by omega
  have bqi : 0 ≤ qi ∧ qi < 18446744073709551616 := by omega
  have br1 : r0 < 4294967296 := by omega
  have br2 : r2 < 4294967296 := by omega
  have eZZ1 : Z1 = (((u * 4294967296 + un1) / (yn1 * 4294967296 + yn0) : Nat) : Int) := by rw [hYY, hz1, eZ1]
  have eZZ2 : Z2 = (((m1 * 4294967296 + un0) / (yn1 * 4294967296 + yn0) : Nat) : Int) := by rw [hYY, hz2e, eZ2]
  exact ⟨si, hsie, yn1, yn0, u, un1, un0, m1, q0, r0, q2, r2, Yi, Hi, LHi, Ui, Vi, Y1i, Y0i, V1i, V0i, Q0i, R0i, Z1, Mi, Q2, R2, Z2, Ni, P0, A1, A2, A3, P2, B1, B2, B3, ⟨w1, w2, w2', w3, w4, w5, w6, w7, w8, w9, w10, w11, w12, w13, w13', w14, w15, w16, w17, w18, w19, w20, w21, w21', w24, w25, w26, w27, w28, w23, bz1, bz2, hsb2, (by omega), ⟨by omega, by omega⟩, hD1, hD2, br1, br2, eY1i.symm, eY0i.symm, eV1i.symm, eV0i.symm, eQ0i.symm, eR0i.symm, eQ2.symm, eR2.symm, eZZ1, eZZ2⟩⟩
set_option maxHeartbeats 2000000 in
set_option maxRecDepth 100000 in
theorem Div64_any (hi lo y : Nat) (w : World) (h1 : hi < y) (l1 : lo < 18446744073709551616) (y1 : y < 18446744073709551616) :
    Calls Try.prog 116 #[.int .u64 (hi : Int), .int .u64 (lo : Int), .int .u64 (y : Int)] w fun e w' => e = .returned (.tuple #[.int .u64 (((hi * 18446744073709551616 + lo) / y : Nat) : Int), .int .u64 (((hi * 18446744073709551616 + lo) % y : Nat) : Int)]) ∧ Below w.heap.size w w' := by
  obtain ⟨yi, hyi⟩ : ∃ z : Int, (y : Int) = z := ⟨_, rfl⟩
  obtain ⟨hii, hhi⟩ : ∃ z : Int, (hi : Int) = z := ⟨_, rfl⟩
  obtain ⟨li, hli⟩ : ∃ z : Int, (lo : Int) = z := ⟨_, rfl⟩
  obtain ⟨qi, hqi⟩ : ∃ z : Int, (((hi * 18446744073709551616 + lo) / y : Nat) : Int) = z := ⟨_, rfl⟩
  obtain ⟨ri, hri⟩ : ∃ z : Int, (((hi * 18446744073709551616 + lo) % y : Nat) : Int) = z := ⟨_, rfl⟩
  rw [hyi, hhi, hli, hqi, hri]
  have hy0 : ((yi : Int) == 0) = false := beq_eq_false_iff_ne.2 (by omega)
  have hyh : ¬ yi ≤ hii := by omega
  have b1 : 0 ≤ yi ∧ yi < 18446744073709551616 := by omega
  have b2 : 0 ≤ li ∧ li < 18446744073709551616 := by omega
  have b3 : 0 ≤ hii := by omega
  by_cases hz : hii = 0
  · subst hz
    have hz0 : hi = 0 := by omega
    subst hz0
    rw [Nat.zero_mul, Nat.zero_add] at hqi hri
    have hd : li.tdiv yi = qi := by rw [Int.tdiv_eq_ediv_of_nonneg b2.1, ← hqi, ← hli, ← hyi]; rfl
    have hm : li.tmod yi = ri := by rw [Int.tmod_eq_emod_of_nonneg b2.1, ← hri, ← hli, ← hyi]; rfl
    have hqb : 0 ≤ qi ∧ qi < 18446744073709551616 := by
      have h9 := Nat.div_le_self lo y
      generalize lo / y = t at hqi h9
      omega
    have hw : IntKind.u64.wrap qi = qi := by rw [IntKind.wrap_u64]; omega
    clear hqi hri hyi hhi hli h1 l1 y1
    go_enter Try.func116, Try.ntmps116
    go_wp2_with fail
    go_quiet (fail)
    have hL : Below w.heap.size w (w.drewN nq) := below_drewN (Below.refl _ _) _
    generalize (w.drewN nq : World) = w2 at hL ⊢
    go_wp2
    exact bodyPost_ret (v := .tuple #[.int .u64 qi, .int .u64 ri]) (by simp [results, Try.results116, go_sem]) rfl ⟨rfl, hL⟩
  · have hz2 : ((hii : Int) == 0) = false := beq_eq_false_iff_ne.2 hz
    have hlz := fun W => Try.bits_LeadingZeros64 yi W (by omega) (by omega)
    rw [show yi.toNat = y by omega] at hlz
    obtain ⟨si, hsie, yn1, yn0, u, un1, un0, m1, q0, r0, q2, r2, Yi, Hi, LHi, Ui, Vi, Y1i, Y0i, V1i, V0i, Q0i, R0i, Z1, Mi, Q2, R2, Z2, Ni, P0, A1, A2, A3, P2, B1, B2, B3, D⟩ := div_words hi lo y yi hii li qi ri h1 l1 y1 hyi hhi hli hqi hri
    rw [hsie] at hlz
    clear hsie hyi hhi hli hqi hri h1 l1 y1
    obtain ⟨w1, w2, w2', w3, w4, w5, w6, w7, w8, w9, w10, w11, w12, w13, w13', w14, w15, w16, w17, w18, w19, w20, w21, w21', w24, w25, w26, w27, w28, w23, bz1, bz2, bsi, bY, bV, d1, d2, br1, br2, eY1i, eY0i, eV1i, eV0i, eQ0i, eR0i, eQ2, eR2, eZZ1, eZZ2⟩ := D
    obtain ⟨bz11, bz12⟩ := bz1
    obtain ⟨bz21, bz22⟩ := bz2
    obtain ⟨bs1, bs2⟩ := bsi
    have Hlz := hide hlz
    have D1 := hide d1
    have D2 := hide d2
    have Br1 := hide br1
    have Br2 := hide br2
    have EY1 := hide eY1i
    have EY0 := hide eY0i
    have EV1 := hide eV1i
    have EV0 := hide eV0i
    have EQ0 := hide eQ0i
    have ER0 := hide eR0i
    have EQ2 := hide eQ2
    have ER2 := hide eR2
    have EZ1 := hide eZZ1
    have EZ2 := hide eZZ2
    clear hlz d1 d2 br1 br2 eY1i eY0i eV1i eV0i eQ0i eR0i eQ2 eR2 eZZ1 eZZ2
    go_enter Try.func116, Try.ntmps116
    go_wp2_with fail
    refine (Hlz.out _).mono ?_
    rintro e w' ⟨rfl, rfl⟩
    have wr0 : IntKind.u64.wrap R0i = R0i := by rw [IntKind.wrap_u64]; have := ER0.out; have := Br1.out; omega
    have wr2 : IntKind.u64.wrap R2 = R2 := by rw [IntKind.wrap_u64]; have := ER2.out; have := Br2.out; omega
    have w2n : ¬ Yi / 4294967296 = 0 := by omega
    have w2m : ¬ Y1i = 0 := by omega
    go_wp2_with fail
    refine dlp1 yn1 yn0 u un1 q0 r0 Y1i Y0i V1i Q0i R0i Z1 D1.out Br1.out EY1.out EY0.out EV1.out EQ0.out ER0.out EZ1.out ?_
    intro kv16 kv67 kv68 kv69 kv70 kv71 kv72 kv73 kv74 kv75 kv76 kv77 kv78 kv79 kv80 kv81 kv82 kv83 kv84 kv85
    rintro w2 rfl
    go_wp2_with fail
    refine dlp2 yn1 yn0 m1 un0 q2 r2 Y1i Y0i V0i Q2 R2 Z2 D2.out Br2.out EY1.out EY0.out EV0.out EQ2.out ER2.out EZ2.out ?_
    intro kv16 kv102 kv103 kv104 kv105 kv106 kv107 kv108 kv109 kv110 kv111 kv112 kv113 kv114 kv115 kv116 kv117 kv118 kv119 kv120
    rintro w3 rfl
    go_wp2
    exact bodyPost_ret (v := .tuple #[.int .u64 qi, .int .u64 ri]) (by simp [results, Try.results116, go_sem]) rfl ⟨rfl, Below.refl _ _⟩
end Go.Proofs.Ytllpffkifleigaa
