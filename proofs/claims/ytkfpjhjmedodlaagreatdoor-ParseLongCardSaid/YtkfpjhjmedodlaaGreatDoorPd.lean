/- What bits.Div64 gives, for a divisor that is greater than the upper word. -/
import Derived.Test.YtkfpjhjmedodlaaGreatDoorPc
import Derived.Deep.QuietTactic
import Derived.BigQuiet
/- The plain law of a division of two words by one: two digits of 32 bits, each estimated and made right. -/
namespace Go.Proofs.YtkfpjhjmedodlaaGreatDoor
open Go.RowKit Wd
namespace Wd
structure D2 (U Y y1 y0 c : Int) : Prop where
  y : Y = y1 * 4294967296 + y0
  a : 2147483648 ≤ y1
  b : y1 < 4294967296
  d : 0 ≤ y0 ∧ y0 < 4294967296
  u : 0 ≤ U ∧ U < Y
  c : 0 ≤ c ∧ c < 4294967296
def Qd (U Y c : Int) : Int := (U * 4294967296 + c) / Y
def Rd2 (U Y c : Int) : Int := (U * 4294967296 + c) % Y
structure DRel (U Y y1 y0 c q rh : Int) : Prop where
  eq : q * y1 + rh = U
  lo : Qd U Y c ≤ q
  hi : q ≤ 4294967297
  r0 : 0 ≤ rh
  r1 : rh < 4294967296
  q0 : 0 ≤ q
variable {U Y y1 y0 c q rh : Int}
theorem D2.pos (h : D2 U Y y1 y0 c) : 0 < Y := by have := h.y; have := h.a; have := h.d; omega
theorem D2.Qlt (h : D2 U Y y1 y0 c) : Qd U Y c < 4294967296 := by
  unfold Qd
  rw [Int.ediv_lt_iff_lt_mul h.pos]
  have := h.u; have := h.c
  omega
theorem D2.Q0 (h : D2 U Y y1 y0 c) : 0 ≤ Qd U Y c := by
  unfold Qd
  have := h.u; have := h.c
  exact Int.ediv_nonneg (by omega) (Int.le_of_lt h.pos)
theorem D2.le_Q (h : D2 U Y y1 y0 c) (hq : q * Y ≤ U * 4294967296 + c) : q ≤ Qd U Y c := (Int.le_ediv_iff_mul_le h.pos).2 hq
theorem D2.Q_lt (h : D2 U Y y1 y0 c) (hq : U * 4294967296 + c < q * Y) : Qd U Y c < q := (Int.ediv_lt_iff_lt_mul h.pos).2 hq
theorem D2.start (h : D2 U Y y1 y0 c) : DRel U Y y1 y0 c (U / y1) (U - U / y1 * y1) := by
  have hp : 0 < y1 := by have := h.a; omega
  have e := Int.mul_ediv_add_emod U y1
  have m0 := Int.emod_nonneg U (Int.ne_of_gt hp)
  have m1 := Int.emod_lt_of_pos U hp
  have hq0 : 0 ≤ U / y1 := Int.ediv_nonneg h.u.1 (Int.le_of_lt hp)
  have e2 : U - U / y1 * y1 = U % y1 := by rw [Int.mul_comm] at e; omega
  rw [e2]
  have hb := h.b
  refine ⟨by rw [Int.mul_comm]; exact e, ?_, ?_, m0, by omega, hq0⟩
  · have : Qd U Y c < U / y1 + 1 := by
      apply h.Q_lt
      have h1 : (U / y1 + 1) * Y = (U / y1 * y1) * 4294967296 + U / y1 * y0 + Y := by rw [h.y]; grind
      have h2 : 0 ≤ U / y1 * y0 := Int.mul_nonneg hq0 h.d.1
      have := h.y; have := h.c; have := h.d
      rw [Int.mul_comm] at e
      rw [h1]
      omega
    omega
  · have h3 : U / y1 < 4294967298 := by
      rw [Int.ediv_lt_iff_lt_mul hp]
      have := h.y; have := h.u; have := h.d; have := h.a
      omega
    omega
theorem DRel.stop (h : D2 U Y y1 y0 c) (r : DRel U Y y1 y0 c q rh) (h2 : ¬ 4294967296 * rh + c < q * y0) : q = Qd U Y c := by
  have h3 : q ≤ Qd U Y c := by
    apply h.le_Q
    have e : q * Y = q * y1 * 4294967296 + q * y0 := by rw [h.y]; grind
    have := r.eq
    rw [e]
    omega
  have := r.lo
  omega
theorem DRel.more (h : D2 U Y y1 y0 c) (r : DRel U Y y1 y0 c q rh) (h2 : 4294967296 ≤ q ∨ 4294967296 * rh + c < q * y0) : Qd U Y c ≤ q - 1 := by
  rcases h2 with h2 | h2
  · have := h.Qlt
    omega
  · have : Qd U Y c < q := by
      apply h.Q_lt
      have e : q * Y = q * y1 * 4294967296 + q * y0 := by rw [h.y]; grind
      have := r.eq
      rw [e]
      omega
    omega
theorem DRel.next (h : D2 U Y y1 y0 c) (r : DRel U Y y1 y0 c q rh) (h2 : 4294967296 ≤ q ∨ 4294967296 * rh + c < q * y0) (h3 : rh + y1 < 4294967296) : DRel U Y y1 y0 c (q - 1) (rh + y1) := by
  have hm := r.more h h2
  have h0 := h.Q0
  refine ⟨?_, hm, by have := r.hi; omega, by have := r.r0; have := h.a; omega, h3, by omega⟩
  have := r.eq
  rw [Int.sub_mul]
  omega
theorem DRel.brk (h : D2 U Y y1 y0 c) (r : DRel U Y y1 y0 c q rh) (h2 : 4294967296 ≤ q ∨ 4294967296 * rh + c < q * y0) (h3 : 4294967296 ≤ rh + y1) : q - 1 = Qd U Y c := by
  have hm := r.more h h2
  have h4 : q - 1 ≤ Qd U Y c := by
    apply h.le_Q
    have e : (q - 1) * Y = (q * y1 - y1) * 4294967296 + (q - 1) * y0 := by rw [h.y]; grind
    have h5 : (q - 1) * y0 ≤ 4294967296 * y0 := Int.mul_le_mul_of_nonneg_right (by have := r.hi; omega) h.d.1
    have := r.eq; have := h.d; have := h.c
    rw [e]
    omega
  omega
theorem D2.div (h : D2 U Y y1 y0 c) : Qd U Y c * Y + Rd2 U Y c = U * 4294967296 + c ∧ 0 ≤ Rd2 U Y c ∧ Rd2 U Y c < Y := by
  unfold Qd Rd2
  have e := Int.mul_ediv_add_emod (U * 4294967296 + c) Y
  rw [Int.mul_comm] at e
  exact ⟨e, Int.emod_nonneg _ (Int.ne_of_gt h.pos), Int.emod_lt_of_pos _ h.pos⟩
theorem D2.wrapq (h : D2 U Y y1 y0 c) : IntKind.u64.wrap (IntKind.u64.wrap (IntKind.u64.wrap (U * 4294967296) + c) - IntKind.u64.wrap (Qd U Y c * Y)) = Rd2 U Y c := by
  obtain ⟨e, a, b⟩ := h.div
  have hy := h.y
  have hb := h.b
  have hd := h.d
  simp only [IntKind.wrap_u64]
  generalize Qd U Y c * Y = p at *
  generalize U * 4294967296 = v at *
  omega
theorem bits_and_mask (x : Int) (h0 : 0 ≤ x) (h1 : x < B) : bits .and .u64 x 4294967295 = x % 4294967296 := by
  obtain ⟨x, rfl⟩ := Int.eq_ofNat_of_zero_le h0
  rw [B_eq] at h1
  rw [show (4294967295 : Int) = ((4294967295 : Nat) : Int) from rfl, bits_and_u64_nat x 4294967295 (by omega) (by decide)]
  rw [show (4294967295 : Nat) = 2 ^ 32 - 1 from rfl, Nat.and_two_pow_sub_one_eq_mod]
  omega
end Wd
end Go.Proofs.YtkfpjhjmedodlaaGreatDoor

/- math/bits.Div64: the walk. -/
set_option maxRecDepth 100000
namespace Go.Proofs.YtkfpjhjmedodlaaGreatDoor
open Go.RowKit Wd
theorem lz64 {y s : Nat} (hy : y < 2 ^ 64) (hs : Lib.bitLen y + s = 64) (w : World) : Calls Tryz.prog 165 #[.int .u64 y] w fun e w' => e = .returned (.int .i64 s) ∧ w = w' := by
  refine (Tryz.bits_LeadingZeros64 (y : Int) w (by omega) (by omega)).mono ?_
  rintro e w' ⟨rfl, rfl⟩
  rw [show (y : Int).toNat = y by omega]
  exact ⟨by congr 2; omega, rfl⟩

set_option maxHeartbeats 4000000 in
theorem div64_core (hi lo y Y y1 y0 U L c1 c0 Q1 V Q0 R0 quo rem : Int) (s : Nat) (w : World) (hs : s < 64) (_h1 : 0 < hi) (h2 : hi < y)
    (hlz : Hid (Calls Tryz.prog 165 #[.int .u64 y] w fun e w' => e = .returned (.int .i64 s) ∧ w = w'))
    (hy : (y == 0) = false) (hh : (hi == 0) = false) (_hd0 : (y1 == 0) = false)
    (HD1 : Hid (D2 U Y y1 y0 c1 ∧ Q1 = Qd U Y c1)) (HD0 : Hid (D2 V Y y1 y0 c0 ∧ Q0 = Qd V Y c0))
    (E1 : IntKind.u64.wrap (y * 2 ^ s) = Y)
    (E2 : Y / 4294967296 = y1) (E3 : bits .and .u64 Y 4294967295 = y0)
    (E4 : bits .or .u64 (IntKind.u64.wrap (hi * 2 ^ s)) (lo / 2 ^ (64 - s)) = U)
    (E5 : IntKind.u64.wrap (lo * 2 ^ s) = L) (E6 : L / 4294967296 = c1) (E7 : bits .and .u64 L 4294967295 = c0)
    (E8 : IntKind.u64.wrap (U.tdiv y1) = U / y1) (E9 : IntKind.u64.wrap (U - IntKind.u64.wrap (U / y1 * y1)) = U - U / y1 * y1)
    (E10 : IntKind.u64.wrap (IntKind.u64.wrap (IntKind.u64.wrap (U * 4294967296) + c1) - IntKind.u64.wrap (Q1 * Y)) = V)
    (E11 : IntKind.u64.wrap (V.tdiv y1) = V / y1) (E12 : IntKind.u64.wrap (V - IntKind.u64.wrap (V / y1 * y1)) = V - V / y1 * y1)
    (E13 : IntKind.u64.wrap (IntKind.u64.wrap (Q1 * 4294967296) + Q0) = quo)
    (E14 : IntKind.u64.wrap (IntKind.u64.wrap (IntKind.u64.wrap (V * 4294967296) + c0) - IntKind.u64.wrap (Q0 * Y)) = R0)
    (E15 : R0 / 2 ^ s = rem) (E16 : Hid (Q1 * 4294967296 + Q0 = quo)) (E17 : Hid (IntKind.u64.wrap (Q1 * 4294967296 + Q0) = quo)) :
    Calls Tryz.prog 205 #[.int .u64 hi, .int .u64 lo, .int .u64 y] w fun e w' => e = .returned (.tuple #[.int .u64 quo, .int .u64 rem]) ∧ w = w' := by
  have hy1 := HD1.out.1.a
  have hy1' := HD1.out.1.b
  have hc1 := HD1.out.1.c
  have hc0 := HD0.out.1.c
  go_enter Tryz.func205, Tryz.ntmps205
  go_wp2_with fail
  refine hlz.out.mono ?_
  rintro e w' ⟨rfl, rfl⟩
  clear hlz
  go_wp2
  go_loop [15, 16] (fun a b => ∃ q rh : Int, a = .int .u64 q ∧ b = .int .u64 rh ∧ DRel U Y y1 y0 c1 q rh) (fun a _ => (intOf a).toNat)
  case atStart => exact ⟨_, _, rfl, rfl, HD1.out.1.start⟩
  case round =>
    obtain ⟨q, rh, rfl, rfl, hr⟩ := hrel
    have r0 := hr.r0
    have r1 := hr.r1
    have q0 := hr.q0
    have q1 := hr.hi
    by_cases ht : 4294967296 ≤ q ∨ 4294967296 * rh + c1 < q * y0
    · by_cases h3 : rh + y1 < 4294967296
      · have HN := Lib.hid (hr.next HD1.out.1 ht h3)
        have hq1 : 1 ≤ q := by have := HN.out.q0; omega
        rcases ht with ht | ht
        · clear hr
          go_wp2
          go_round
          case rel => exact ⟨_, _, rfl, rfl, HN.out⟩
          case measure => simp [intOf]; omega
        · by_cases hlt : 4294967296 ≤ q
          · clear hr ht
            go_wp2
            go_round
            case rel => exact ⟨_, _, rfl, rfl, HN.out⟩
            case measure => simp [intOf]; omega
          · have hm0 := Int.mul_nonneg q0 HD1.out.1.d.1
            have hm1 : q * y0 ≤ 4294967295 * 4294967295 := Int.mul_le_mul (by omega) (by have := HD1.out.1.d; omega) HD1.out.1.d.1 (by decide)
            have W1 : IntKind.u64.wrap (q * y0) = q * y0 := by rw [IntKind.wrap_u64]; omega
            clear hr hm0 hm1
            go_wp2
            go_round
            case rel => exact ⟨_, _, rfl, rfl, HN.out⟩
            case measure => simp [intOf]; omega
      · have HN := Lib.hid (hr.brk HD1.out.1 ht (by omega))
        have hq1 : 1 ≤ q := by have := HN.out; have := HD1.out.1.Q0; omega
        have hbr : ¬ rh + y1 < 4294967296 := h3
        have EQ : q - 1 = Q1 := by rw [HD1.out.2]; exact HN.out
        rcases ht with ht | ht
        · clear hr
          go_wp2
          go_loop [18, 16] (fun a b => ∃ q rh : Int, a = .int .u64 q ∧ b = .int .u64 rh ∧ DRel V Y y1 y0 c0 q rh) (fun a _ => (intOf a).toNat)
          case atStart => exact ⟨_, _, rfl, rfl, HD0.out.1.start⟩
          case round =>
            obtain ⟨q, rh, rfl, rfl, hr⟩ := hrel
            have r0 := hr.r0
            have r1 := hr.r1
            have q0 := hr.q0
            have q1 := hr.hi
            by_cases ht : 4294967296 ≤ q ∨ 4294967296 * rh + c0 < q * y0
            · by_cases h3 : rh + y1 < 4294967296
              · have HN := Lib.hid (hr.next HD0.out.1 ht h3)
                have hq1 : 1 ≤ q := by have := HN.out.q0; omega
                rcases ht with ht | ht
                · clear hr
                  go_wp2
                  go_round
                  case rel => exact ⟨_, _, rfl, rfl, HN.out⟩
                  case measure => simp [intOf]; omega
                · by_cases hlt : 4294967296 ≤ q
                  · clear hr ht
                    go_wp2
                    go_round
                    case rel => exact ⟨_, _, rfl, rfl, HN.out⟩
                    case measure => simp [intOf]; omega
                  · have hm0 := Int.mul_nonneg q0 HD0.out.1.d.1
                    have hm1 : q * y0 ≤ 4294967295 * 4294967295 := Int.mul_le_mul (by omega) (by have := HD0.out.1.d; omega) HD0.out.1.d.1 (by decide)
                    have W1 : IntKind.u64.wrap (q * y0) = q * y0 := by rw [IntKind.wrap_u64]; omega
                    clear hr hm0 hm1
                    go_wp2
                    go_round
                    case rel => exact ⟨_, _, rfl, rfl, HN.out⟩
                    case measure => simp [intOf]; omega
              · have HN := Lib.hid (hr.brk HD0.out.1 ht (by omega))
                have hq1 : 1 ≤ q := by have := HN.out; have := HD0.out.1.Q0; omega
                have hbr : ¬ rh + y1 < 4294967296 := h3
                have EQ : q - 1 = Q0 := by rw [HD0.out.2]; exact HN.out
                rcases ht with ht | ht
                · clear hr
                  go_wp2
                  go_ret2
                  exact ⟨by first | rfl | (rw [← E16.out]; rfl) | (rw [← E17.out]; rfl), rfl⟩
                · by_cases hlt : 4294967296 ≤ q
                  · clear hr ht
                    go_wp2
                    go_ret2
                    exact ⟨by first | rfl | (rw [← E16.out]; rfl) | (rw [← E17.out]; rfl), rfl⟩
                  · have hm0 := Int.mul_nonneg q0 HD0.out.1.d.1
                    have hm1 : q * y0 ≤ 4294967295 * 4294967295 := Int.mul_le_mul (by omega) (by have := HD0.out.1.d; omega) HD0.out.1.d.1 (by decide)
                    have W1 : IntKind.u64.wrap (q * y0) = q * y0 := by rw [IntKind.wrap_u64]; omega
                    clear hr hm0 hm1
                    go_wp2
                    go_ret2
                    exact ⟨by first | rfl | (rw [← E16.out]; rfl) | (rw [← E17.out]; rfl), rfl⟩
            · have ht1 : ¬ 4294967296 ≤ q := fun h => ht (.inl h)
              have ht2 : ¬ 4294967296 * rh + c0 < q * y0 := fun h => ht (.inr h)
              have hm0 := Int.mul_nonneg q0 HD0.out.1.d.1
              have hm1 : q * y0 ≤ 4294967295 * 4294967295 := Int.mul_le_mul (by omega) (by have := HD0.out.1.d; omega) HD0.out.1.d.1 (by decide)
              have W1 : IntKind.u64.wrap (q * y0) = q * y0 := by rw [IntKind.wrap_u64]; omega
              obtain rfl : q = Q0 := by rw [HD0.out.2]; exact hr.stop HD0.out.1 ht2
              clear hr hm0 hm1 ht
              go_wp2
              go_ret2
              exact ⟨by first | rfl | (rw [← E16.out]; rfl) | (rw [← E17.out]; rfl), rfl⟩
        · by_cases hlt : 4294967296 ≤ q
          · clear hr ht
            go_wp2
            go_loop [18, 16] (fun a b => ∃ q rh : Int, a = .int .u64 q ∧ b = .int .u64 rh ∧ DRel V Y y1 y0 c0 q rh) (fun a _ => (intOf a).toNat)
            case atStart => exact ⟨_, _, rfl, rfl, HD0.out.1.start⟩
            case round =>
              obtain ⟨q, rh, rfl, rfl, hr⟩ := hrel
              have r0 := hr.r0
              have r1 := hr.r1
              have q0 := hr.q0
              have q1 := hr.hi
              by_cases ht : 4294967296 ≤ q ∨ 4294967296 * rh + c0 < q * y0
              · by_cases h3 : rh + y1 < 4294967296
                · have HN := Lib.hid (hr.next HD0.out.1 ht h3)
                  have hq1 : 1 ≤ q := by have := HN.out.q0; omega
                  rcases ht with ht | ht
                  · clear hr
                    go_wp2
                    go_round
                    case rel => exact ⟨_, _, rfl, rfl, HN.out⟩
                    case measure => simp [intOf]; omega
                  · by_cases hlt : 4294967296 ≤ q
                    · clear hr ht
                      go_wp2
                      go_round
                      case rel => exact ⟨_, _, rfl, rfl, HN.out⟩
                      case measure => simp [intOf]; omega
                    · have hm0 := Int.mul_nonneg q0 HD0.out.1.d.1
                      have hm1 : q * y0 ≤ 4294967295 * 4294967295 := Int.mul_le_mul (by omega) (by have := HD0.out.1.d; omega) HD0.out.1.d.1 (by decide)
                      have W1 : IntKind.u64.wrap (q * y0) = q * y0 := by rw [IntKind.wrap_u64]; omega
                      clear hr hm0 hm1
                      go_wp2
                      go_round
                      case rel => exact ⟨_, _, rfl, rfl, HN.out⟩
                      case measure => simp [intOf]; omega
                · have HN := Lib.hid (hr.brk HD0.out.1 ht (by omega))
                  have hq1 : 1 ≤ q := by have := HN.out; have := HD0.out.1.Q0; omega
                  have hbr : ¬ rh + y1 < 4294967296 := h3
                  have EQ : q - 1 = Q0 := by rw [HD0.out.2]; exact HN.out
                  rcases ht with ht | ht
                  · clear hr
                    go_wp2
                    go_ret2
                    exact ⟨by first | rfl | (rw [← E16.out]; rfl) | (rw [← E17.out]; rfl), rfl⟩
                  · by_cases hlt : 4294967296 ≤ q
                    · clear hr ht
                      go_wp2
                      go_ret2
                      exact ⟨by first | rfl | (rw [← E16.out]; rfl) | (rw [← E17.out]; rfl), rfl⟩
                    · have hm0 := Int.mul_nonneg q0 HD0.out.1.d.1
                      have hm1 : q * y0 ≤ 4294967295 * 4294967295 := Int.mul_le_mul (by omega) (by have := HD0.out.1.d; omega) HD0.out.1.d.1 (by decide)
                      have W1 : IntKind.u64.wrap (q * y0) = q * y0 := by rw [IntKind.wrap_u64]; omega
                      clear hr hm0 hm1
                      go_wp2
                      go_ret2
                      exact ⟨by first | rfl | (rw [← E16.out]; rfl) | (rw [← E17.out]; rfl), rfl⟩
              · have ht1 : ¬ 4294967296 ≤ q := fun h => ht (.inl h)
                have ht2 : ¬ 4294967296 * rh + c0 < q * y0 := fun h => ht (.inr h)
                have hm0 := Int.mul_nonneg q0 HD0.out.1.d.1
                have hm1 : q * y0 ≤ 4294967295 * 4294967295 := Int.mul_le_mul (by omega) (by have := HD0.out.1.d; omega) HD0.out.1.d.1 (by decide)
                have W1 : IntKind.u64.wrap (q * y0) = q * y0 := by rw [IntKind.wrap_u64]; omega
                obtain rfl : q = Q0 := by rw [HD0.out.2]; exact hr.stop HD0.out.1 ht2
                clear hr hm0 hm1 ht
                go_wp2
                go_ret2
                exact ⟨by first | rfl | (rw [← E16.out]; rfl) | (rw [← E17.out]; rfl), rfl⟩
          · have hm0 := Int.mul_nonneg q0 HD1.out.1.d.1
            have hm1 : q * y0 ≤ 4294967295 * 4294967295 := Int.mul_le_mul (by omega) (by have := HD1.out.1.d; omega) HD1.out.1.d.1 (by decide)
            have W1 : IntKind.u64.wrap (q * y0) = q * y0 := by rw [IntKind.wrap_u64]; omega
            clear hr hm0 hm1
            go_wp2
            go_loop [18, 16] (fun a b => ∃ q rh : Int, a = .int .u64 q ∧ b = .int .u64 rh ∧ DRel V Y y1 y0 c0 q rh) (fun a _ => (intOf a).toNat)
            case atStart => exact ⟨_, _, rfl, rfl, HD0.out.1.start⟩
            case round =>
              obtain ⟨q, rh, rfl, rfl, hr⟩ := hrel
              have r0 := hr.r0
              have r1 := hr.r1
              have q0 := hr.q0
              have q1 := hr.hi
              by_cases ht : 4294967296 ≤ q ∨ 4294967296 * rh + c0 < q * y0
              · by_cases h3 : rh + y1 < 4294967296
                · have HN := Lib.hid (hr.next HD0.out.1 ht h3)
                  have hq1 : 1 ≤ q := by have := HN.out.q0; omega
                  rcases ht with ht | ht
                  · clear hr
                    go_wp2
                    go_round
                    case rel => exact ⟨_, _, rfl, rfl, HN.out⟩
                    case measure => simp [intOf]; omega
                  · by_cases hlt : 4294967296 ≤ q
                    · clear hr ht
                      go_wp2
                      go_round
                      case rel => exact ⟨_, _, rfl, rfl, HN.out⟩
                      case measure => simp [intOf]; omega
                    · have hm0 := Int.mul_nonneg q0 HD0.out.1.d.1
                      have hm1 : q * y0 ≤ 4294967295 * 4294967295 := Int.mul_le_mul (by omega) (by have := HD0.out.1.d; omega) HD0.out.1.d.1 (by decide)
                      have W1 : IntKind.u64.wrap (q * y0) = q * y0 := by rw [IntKind.wrap_u64]; omega
                      clear hr hm0 hm1
                      go_wp2
                      go_round
                      case rel => exact ⟨_, _, rfl, rfl, HN.out⟩
                      case measure => simp [intOf]; omega
                · have HN := Lib.hid (hr.brk HD0.out.1 ht (by omega))
                  have hq1 : 1 ≤ q := by have := HN.out; have := HD0.out.1.Q0; omega
                  have hbr : ¬ rh + y1 < 4294967296 := h3
                  have EQ : q - 1 = Q0 := by rw [HD0.out.2]; exact HN.out
                  rcases ht with ht | ht
                  · clear hr
                    go_wp2
                    go_ret2
                    exact ⟨by first | rfl | (rw [← E16.out]; rfl) | (rw [← E17.out]; rfl), rfl⟩
                  · by_cases hlt : 4294967296 ≤ q
                    · clear hr ht
                      go_wp2
                      go_ret2
                      exact ⟨by first | rfl | (rw [← E16.out]; rfl) | (rw [← E17.out]; rfl), rfl⟩
                    · have hm0 := Int.mul_nonneg q0 HD0.out.1.d.1
                      have hm1 : q * y0 ≤ 4294967295 * 4294967295 := Int.mul_le_mul (by omega) (by have := HD0.out.1.d; omega) HD0.out.1.d.1 (by decide)
                      have W1 : IntKind.u64.wrap (q * y0) = q * y0 := by rw [IntKind.wrap_u64]; omega
                      clear hr hm0 hm1
                      go_wp2
                      go_ret2
                      exact ⟨by first | rfl | (rw [← E16.out]; rfl) | (rw [← E17.out]; rfl), rfl⟩
              · have ht1 : ¬ 4294967296 ≤ q := fun h => ht (.inl h)
                have ht2 : ¬ 4294967296 * rh + c0 < q * y0 := fun h => ht (.inr h)
                have hm0 := Int.mul_nonneg q0 HD0.out.1.d.1
                have hm1 : q * y0 ≤ 4294967295 * 4294967295 := Int.mul_le_mul (by omega) (by have := HD0.out.1.d; omega) HD0.out.1.d.1 (by decide)
                have W1 : IntKind.u64.wrap (q * y0) = q * y0 := by rw [IntKind.wrap_u64]; omega
                obtain rfl : q = Q0 := by rw [HD0.out.2]; exact hr.stop HD0.out.1 ht2
                clear hr hm0 hm1 ht
                go_wp2
                go_ret2
                exact ⟨by first | rfl | (rw [← E16.out]; rfl) | (rw [← E17.out]; rfl), rfl⟩
    · have ht1 : ¬ 4294967296 ≤ q := fun h => ht (.inl h)
      have ht2 : ¬ 4294967296 * rh + c1 < q * y0 := fun h => ht (.inr h)
      have hm0 := Int.mul_nonneg q0 HD1.out.1.d.1
      have hm1 : q * y0 ≤ 4294967295 * 4294967295 := Int.mul_le_mul (by omega) (by have := HD1.out.1.d; omega) HD1.out.1.d.1 (by decide)
      have W1 : IntKind.u64.wrap (q * y0) = q * y0 := by rw [IntKind.wrap_u64]; omega
      obtain rfl : q = Q1 := by rw [HD1.out.2]; exact hr.stop HD1.out.1 ht2
      clear hr hm0 hm1 ht
      go_wp2
      go_loop [18, 16] (fun a b => ∃ q rh : Int, a = .int .u64 q ∧ b = .int .u64 rh ∧ DRel V Y y1 y0 c0 q rh) (fun a _ => (intOf a).toNat)
      case atStart => exact ⟨_, _, rfl, rfl, HD0.out.1.start⟩
      case round =>
        obtain ⟨q, rh, rfl, rfl, hr⟩ := hrel
        have r0 := hr.r0
        have r1 := hr.r1
        have q0 := hr.q0
        have q1 := hr.hi
        by_cases ht : 4294967296 ≤ q ∨ 4294967296 * rh + c0 < q * y0
        · by_cases h3 : rh + y1 < 4294967296
          · have HN := Lib.hid (hr.next HD0.out.1 ht h3)
            have hq1 : 1 ≤ q := by have := HN.out.q0; omega
            rcases ht with ht | ht
            · clear hr
              go_wp2
              go_round
              case rel => exact ⟨_, _, rfl, rfl, HN.out⟩
              case measure => simp [intOf]; omega
            · by_cases hlt : 4294967296 ≤ q
              · clear hr ht
                go_wp2
                go_round
                case rel => exact ⟨_, _, rfl, rfl, HN.out⟩
                case measure => simp [intOf]; omega
              · have hm0 := Int.mul_nonneg q0 HD0.out.1.d.1
                have hm1 : q * y0 ≤ 4294967295 * 4294967295 := Int.mul_le_mul (by omega) (by have := HD0.out.1.d; omega) HD0.out.1.d.1 (by decide)
                have W1 : IntKind.u64.wrap (q * y0) = q * y0 := by rw [IntKind.wrap_u64]; omega
                clear hr hm0 hm1
                go_wp2
                go_round
                case rel => exact ⟨_, _, rfl, rfl, HN.out⟩
                case measure => simp [intOf]; omega
          · have HN := Lib.hid (hr.brk HD0.out.1 ht (by omega))
            have hq1 : 1 ≤ q := by have := HN.out; have := HD0.out.1.Q0; omega
            have hbr : ¬ rh + y1 < 4294967296 := h3
            have EQ : q - 1 = Q0 := by rw [HD0.out.2]; exact HN.out
            rcases ht with ht | ht
            · clear hr
              go_wp2
              go_ret2
              exact ⟨by first | rfl | (rw [← E16.out]; rfl) | (rw [← E17.out]; rfl), rfl⟩
            · by_cases hlt : 4294967296 ≤ q
              · clear hr ht
                go_wp2
                go_ret2
                exact ⟨by first | rfl | (rw [← E16.out]; rfl) | (rw [← E17.out]; rfl), rfl⟩
              · have hm0 := Int.mul_nonneg q0 HD0.out.1.d.1
                have hm1 : q * y0 ≤ 4294967295 * 4294967295 := Int.mul_le_mul (by omega) (by have := HD0.out.1.d; omega) HD0.out.1.d.1 (by decide)
                have W1 : IntKind.u64.wrap (q * y0) = q * y0 := by rw [IntKind.wrap_u64]; omega
                clear hr hm0 hm1
                go_wp2
                go_ret2
                exact ⟨by first | rfl | (rw [← E16.out]; rfl) | (rw [← E17.out]; rfl), rfl⟩
        · have ht1 : ¬ 4294967296 ≤ q := fun h => ht (.inl h)
          have ht2 : ¬ 4294967296 * rh + c0 < q * y0 := fun h => ht (.inr h)
          have hm0 := Int.mul_nonneg q0 HD0.out.1.d.1
          have hm1 : q * y0 ≤ 4294967295 * 4294967295 := Int.mul_le_mul (by omega) (by have := HD0.out.1.d; omega) HD0.out.1.d.1 (by decide)
          have W1 : IntKind.u64.wrap (q * y0) = q * y0 := by rw [IntKind.wrap_u64]; omega
          obtain rfl : q = Q0 := by rw [HD0.out.2]; exact hr.stop HD0.out.1 ht2
          clear hr hm0 hm1 ht
          go_wp2
          go_ret2
          exact ⟨by first | rfl | (rw [← E16.out]; rfl) | (rw [← E17.out]; rfl), rfl⟩
end Go.Proofs.YtkfpjhjmedodlaaGreatDoor

/- math/bits.Div64: what it gives. -/
set_option maxRecDepth 100000
namespace Go.Proofs.YtkfpjhjmedodlaaGreatDoor
open Go.RowKit Wd
namespace Wd
def dq (hi lo y : Int) : Int := (hi * B + lo) / y
def dr (hi lo y : Int) : Int := (hi * B + lo) % y
theorem div_law {hi lo y : Int} (h0 : 0 ≤ hi) (h1 : hi < y) (hl : 0 ≤ lo ∧ lo < B) : dq hi lo y * y + dr hi lo y = hi * B + lo ∧ (0 ≤ dq hi lo y ∧ dq hi lo y < B) ∧ 0 ≤ dr hi lo y ∧ dr hi lo y < y := by
  have hp : 0 < y := by omega
  have e := Int.mul_ediv_add_emod (hi * B + lo) y
  have hn : 0 ≤ hi * B + lo := Int.add_nonneg (Int.mul_nonneg h0 (Int.le_of_lt B_pos)) hl.1
  refine ⟨by unfold dq dr; rw [Int.mul_comm]; exact e, ⟨Int.ediv_nonneg hn (Int.le_of_lt hp), ?_⟩, Int.emod_nonneg _ (Int.ne_of_gt hp), Int.emod_lt_of_pos _ hp⟩
  unfold dq
  rw [Int.ediv_lt_iff_lt_mul hp, Int.mul_comm B y]
  have : (hi + 1) * B ≤ y * B := Int.mul_le_mul_of_nonneg_right (by omega) (Int.le_of_lt B_pos)
  rw [Int.add_mul] at this
  omega
end Wd

set_option maxHeartbeats 1000000 in
theorem div64_zero {lo y : Int} (hy0 : 0 < y) (hl : 0 ≤ lo ∧ lo < B) (w : World) :
    Calls Tryz.prog 205 #[.int .u64 0, .int .u64 lo, .int .u64 y] w fun e w' => e = .returned (.tuple #[.int .u64 (lo / y), .int .u64 (lo % y)]) ∧ Drew w w' := by
  have h0 : (y == 0) = false := beq_eq_false_iff_ne.2 (by omega)
  have h1 : ¬ y ≤ 0 := by omega
  have h2 : ¬ y = 0 := by omega
  have h3 : IntKind.u64.wrap (lo.tdiv y) = lo / y := by
    rw [Int.tdiv_eq_ediv_of_nonneg hl.1]
    exact wrap_u64 (Int.ediv_nonneg hl.1 (by omega)) (by have := Int.ediv_le_self y hl.1; omega)
  have h4 : lo.tmod y = lo % y := Int.tmod_eq_emod_of_nonneg hl.1
  clear hl
  go_enter Tryz.func205, Tryz.ntmps205
  go_wp2
  go_quiet (fail)
  go_wp2
  go_ret2
  exact ⟨rfl, (Drew.refl w).step _⟩

theorem div64 {hi lo y : Int} (h0 : 0 ≤ hi) (h1 : hi < y) (hl : 0 ≤ lo ∧ lo < B) (hyB : y < B) (w : World) :
    Calls Tryz.prog 205 #[.int .u64 hi, .int .u64 lo, .int .u64 y] w fun e w' => e = .returned (.tuple #[.int .u64 (dq hi lo y), .int .u64 (dr hi lo y)]) ∧ Drew w w' := by
  by_cases hz : hi = 0
  · subst hz
    refine (div64_zero (by omega) hl w).mono ?_
    rintro e w' ⟨rfl, hd⟩
    exact ⟨by unfold dq dr; simp, hd⟩
  · obtain ⟨yn, rfl⟩ := Int.eq_ofNat_of_zero_le (show 0 ≤ y by omega)
    have hy64 : yn < 2 ^ 64 := by rw [B_eq] at hyB; omega
    have hyn : yn ≠ 0 := by omega
    obtain ⟨b1, b2, b3, b4⟩ := Wd.bitLen_spec yn hyn hy64
    obtain ⟨s, hs⟩ : ∃ s, Lib.bitLen yn + s = 64 := ⟨64 - Lib.bitLen yn, by omega⟩
    have hs64 : s < 64 := by omega
    have hp := two_pow_pos' s
    have hsB : (2 : Int) ^ s < B := by
      rw [show B = 2 ^ 64 from rfl]
      exact_mod_cast Nat.pow_lt_pow_right (by decide) hs64
    -- the divisor, made normal
    have hYlt : (yn : Int) * 2 ^ s < B := by
      have h : yn * 2 ^ s < 2 ^ Lib.bitLen yn * 2 ^ s := Nat.mul_lt_mul_of_pos_right b2 (Nat.two_pow_pos s)
      rw [← Nat.pow_add, hs] at h
      rw [B_eq]
      have : ((yn * 2 ^ s : Nat) : Int) < ((2 ^ 64 : Nat) : Int) := by omega
      simpa using this
    have hYge : (9223372036854775808 : Int) ≤ (yn : Int) * 2 ^ s := by
      have h : 2 ^ (Lib.bitLen yn - 1) * 2 ^ s ≤ yn * 2 ^ s := Nat.mul_le_mul_right _ b1
      rw [← Nat.pow_add, show Lib.bitLen yn - 1 + s = 63 by omega] at h
      have : ((2 ^ 63 : Nat) : Int) ≤ ((yn * 2 ^ s : Nat) : Int) := by omega
      simpa using this
    generalize hYd : (yn : Int) * 2 ^ s = Y at *
    -- the dividend
    have hUor : bits .or .u64 (shlo hi s) (shhi lo s) = shlo hi s + shhi lo s ∧ hi * 2 ^ s = shlo hi s := by
      obtain ⟨ea, aa, -, -, m⟩ := sh_law (x := hi) (by omega) hs64
      obtain ⟨-, -, c0, c1, -⟩ := sh_law hl hs64
      have hlt : hi * 2 ^ s < B := by
        have : hi * 2 ^ s ≤ yn * 2 ^ s := Int.mul_le_mul_of_nonneg_right (by omega) (Int.le_of_lt hp)
        omega
      have e1 : shlo hi s = hi * 2 ^ s := Int.emod_eq_of_lt (Int.mul_nonneg h0 (Int.le_of_lt hp)) hlt
      obtain ⟨o1, o2⟩ := or_law hs64 c0 c1 m aa.2
      refine ⟨?_, e1.symm⟩
      obtain ⟨p, hp1⟩ := Int.eq_ofNat_of_zero_le aa.1
      obtain ⟨q, hq1⟩ := Int.eq_ofNat_of_zero_le c0
      rw [hp1, hq1] at o1 ⊢
      have l1 : p < 18446744073709551616 := by have := aa.2; rw [hp1, B_eq] at this; omega
      have l2 : q < 18446744073709551616 := by rw [hq1] at c1; rw [B_eq] at hsB; omega
      rw [bits_or_u64_nat _ _ l1 l2, Nat.or_comm, ← bits_or_u64_nat _ _ l2 l1, o1]
      omega
    obtain ⟨hor, hsh⟩ := hUor
    obtain ⟨el, al, bl0, bl1, -⟩ := sh_law hl hs64
    have hUe : bits .or .u64 (IntKind.u64.wrap (hi * 2 ^ s)) (lo / 2 ^ (64 - s)) = hi * 2 ^ s + shhi lo s := by
      rw [IntKind.wrap_u64]
      change bits .or .u64 (shlo hi s) (shhi lo s) = _
      rw [hor, hsh]
    have hN : (hi * B + lo) * 2 ^ s = (hi * 2 ^ s + shhi lo s) * B + shlo lo s := by
      generalize (2 : Int) ^ s = p at *
      grind
    have hUlt : hi * 2 ^ s + shhi lo s < Y := by
      have h2 : (hi + 1) * 2 ^ s ≤ yn * 2 ^ s := Int.mul_le_mul_of_nonneg_right (by omega) (Int.le_of_lt hp)
      rw [Int.add_mul] at h2
      omega
    have hU0 : 0 ≤ hi * 2 ^ s + shhi lo s := Int.add_nonneg (Int.mul_nonneg h0 (Int.le_of_lt hp)) bl0
    generalize hi * 2 ^ s + shhi lo s = U at *
    have hLw : IntKind.u64.wrap (lo * 2 ^ s) = shlo lo s := by rw [IntKind.wrap_u64]; rfl
    generalize shlo lo s = L at *
    have hL1 := al.1
    have hL2 := al.2
    rw [B_eq] at hYlt hL2 hN
    have D1 : D2 U Y (Y / 4294967296) (Y % 4294967296) (L / 4294967296) := ⟨by omega, by omega, by omega, by omega, ⟨hU0, hUlt⟩, by omega⟩
    obtain ⟨g1, g2, g3⟩ := D1.div
    have D0 : D2 (Rd2 U Y (L / 4294967296)) Y (Y / 4294967296) (Y % 4294967296) (L % 4294967296) := ⟨by omega, by omega, by omega, by omega, ⟨g2, g3⟩, by omega⟩
    obtain ⟨k1, k2, k3⟩ := D0.div
    have q1 := D1.Qlt
    have q1' := D1.Q0
    have q0 := D0.Qlt
    have q0' := D0.Q0
    have w10 := D1.wrapq
    have w14 := D0.wrapq
    have st1 := D1.start
    have st0 := D0.start
    -- what comes out
    have hfin : Qd U Y (L / 4294967296) * 4294967296 + Qd (Rd2 U Y (L / 4294967296)) Y (L % 4294967296) = dq hi lo yn ∧ Rd2 (Rd2 U Y (L / 4294967296)) Y (L % 4294967296) / 2 ^ s = dr hi lo yn := by
      generalize Qd (Rd2 U Y (L / 4294967296)) Y (L % 4294967296) = Q0 at *
      generalize Rd2 (Rd2 U Y (L / 4294967296)) Y (L % 4294967296) = R0 at *
      generalize Rd2 U Y (L / 4294967296) = V at *
      generalize Qd U Y (L / 4294967296) = Q1 at *
      have hLs : L = L / 4294967296 * 4294967296 + L % 4294967296 := by omega
      have e : (Q1 * 4294967296 + Q0) * Y + R0 = (hi * 18446744073709551616 + lo) * 2 ^ s := by
        rw [hN]
        generalize L / 4294967296 = c1 at *
        generalize L % 4294967296 = c0 at *
        grind
      have hq : (hi * 18446744073709551616 + lo) * 2 ^ s / Y = Q1 * 4294967296 + Q0 := by
        rw [← e, Int.mul_comm _ Y, Int.mul_add_ediv_left _ _ (by omega : Y ≠ 0), Int.ediv_eq_zero_of_lt k2 k3, Int.add_zero]
      have hr : (hi * 18446744073709551616 + lo) * 2 ^ s % Y = R0 := by
        rw [← e, Int.mul_comm _ Y, Int.mul_add_emod_self_left, Int.emod_eq_of_lt k2 k3]
      unfold dq dr
      rw [B_eq]
      refine ⟨?_, ?_⟩
      · rw [← hq, ← hYd, Int.mul_ediv_mul_of_pos_left _ _ hp]
      · rw [← hr, ← hYd, Int.mul_comm _ (2 ^ s), Int.mul_comm (yn : Int) (2 ^ s), Int.mul_emod_mul_of_pos _ _ hp, Int.mul_ediv_cancel_left _ (Int.ne_of_gt hp)]
    have hy1 : 0 < Y / 4294967296 := by omega
    have uw : ∀ e : Int, 0 ≤ e → e < 18446744073709551616 → IntKind.u64.wrap e = e := fun e a b => by rw [IntKind.wrap_u64]; omega
    have td : ∀ u : Int, 0 ≤ u → u < Y → IntKind.u64.wrap (u.tdiv (Y / 4294967296)) = u / (Y / 4294967296) := fun u a b => by
      rw [Int.tdiv_eq_ediv_of_nonneg a]
      exact uw _ (Int.ediv_nonneg a (by omega)) (by have := Int.ediv_le_self (Y / 4294967296) a; omega)
    have ts : ∀ u c : Int, 0 ≤ u → u < Y → DRel u Y (Y / 4294967296) (Y % 4294967296) c (u / (Y / 4294967296)) (u - u / (Y / 4294967296) * (Y / 4294967296)) → IntKind.u64.wrap (u - IntKind.u64.wrap (u / (Y / 4294967296) * (Y / 4294967296))) = u - u / (Y / 4294967296) * (Y / 4294967296) := fun u c a b st => by
      have := st.r0; have := st.r1
      have hm : 0 ≤ u / (Y / 4294967296) * (Y / 4294967296) := Int.mul_nonneg st.q0 (by omega)
      generalize u / (Y / 4294967296) * (Y / 4294967296) = m at *
      rw [uw m hm (by omega), uw _ (by omega) (by omega)]
    refine (div64_core hi lo yn Y (Y / 4294967296) (Y % 4294967296) U L (L / 4294967296) (L % 4294967296) (Qd U Y (L / 4294967296)) (Rd2 U Y (L / 4294967296))
      (Qd (Rd2 U Y (L / 4294967296)) Y (L % 4294967296)) (Rd2 (Rd2 U Y (L / 4294967296)) Y (L % 4294967296)) (dq hi lo yn) (dr hi lo yn) s w hs64 (by omega) h1 (lz64 hy64 hs w)
      (beq_eq_false_iff_ne.2 (by omega)) (beq_eq_false_iff_ne.2 hz) (beq_eq_false_iff_ne.2 (by omega)) ⟨D1, rfl⟩ ⟨D0, rfl⟩ ?_ rfl ?_ hUe hLw rfl ?_ (td U hU0 hUlt) (ts U _ hU0 hUlt st1) w10
      (td _ g2 g3) (ts _ _ g2 g3 st0) ?_ w14 hfin.2 hfin.1 ?_).mono ?_
    · rw [hYd]; exact uw _ (by omega) hYlt
    · exact bits_and_mask Y (by omega) (by rw [B_eq]; exact hYlt)
    · exact bits_and_mask L hL1 (by rw [B_eq]; exact hL2)
    · rw [← hfin.1, uw (Qd U Y (L / 4294967296) * 4294967296) (by omega) (by omega)]
      exact uw _ (by omega) (by omega)
    · exact by rw [← hfin.1]; exact uw _ (by omega) (by omega)
    · rintro e w' ⟨rfl, rfl⟩
      exact ⟨rfl, Drew.refl _⟩
end Go.Proofs.YtkfpjhjmedodlaaGreatDoor
