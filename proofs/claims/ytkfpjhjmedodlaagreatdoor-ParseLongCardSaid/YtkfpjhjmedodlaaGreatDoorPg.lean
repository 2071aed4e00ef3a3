/- What wide.Pow, wide.Ten, wide.Digits, wide.Strip give, for small arguments. -/
import Derived.Test.YtkfpjhjmedodlaaGreatDoorPf
import Derived.Test.YtkfpjhjmedodlaaGreatDoorPe
import Derived.Deep.LoopGhost
/- wide.Pow, wide.Ten, wide.Digits: the walks. -/
set_option maxRecDepth 100000
namespace Go.Proofs.YtkfpjhjmedodlaaGreatDoor
open Go.RowKit Wd
theorem wd_len_pow {a l0 : Nat} (h : (wd a).length ≤ l0) (p : Nat) : (wd (a ^ p)).length ≤ p * l0 + 1 := by
  induction p with
  | zero => simp; exact wd_len_le (by decide)
  | succ p ih =>
    rw [Nat.pow_succ]
    have := wd_len_mul (a ^ p) a
    rw [Nat.add_mul]
    omega
theorem bits_and_i64_one (k : Nat) (h : k < 9223372036854775808) : (bits .and .i64 (k : Int) 1 == 1) = decide (k % 2 = 1) := by
  have h1 : (BitVec.ofInt 64 (k : Int)).toNat = k := by
    rw [BitVec.ofInt_natCast, BitVec.toNat_ofNat]; exact Nat.mod_eq_of_lt (by omega)
  have e : bits .and .i64 (k : Int) 1 = ((k % 2 : Nat) : Int) := by
    show IntKind.i64.wrap ((BitVec.ofInt 64 (k : Int) &&& BitVec.ofInt 64 1).toNat : Int) = _
    rw [BitVec.toNat_and, h1, show (BitVec.ofInt 64 1).toNat = 1 from rfl, Nat.and_one_is_mod]
    exact IntWalk.i64_in _ (by omega)
  rw [e, Bool.eq_iff_iff]
  simp
  omega

set_option maxHeartbeats 2000000 in
theorem pow_any {w : World} {x : Value} {xs : List Int} {a : Nat} (hx : Nm w x xs a) (k : Nat) (hs : xs.length * k ≤ 20000000) (hk : k ≤ 1000000000) :
    Calls Tryz.prog 129 #[x, .int .i64 k] w (Res (a ^ k) w) := by
  have hlx := val_len_le hx.wf hx.val
  have HF : Hid (∀ v w', Own w.heap.size w' v (wd (a ^ k)) → Below w.heap.size w w' → Res (a ^ k) w (.returned v) w') := fun v w' h1 h2 => ⟨v, rfl, h1, h2⟩
  have h1 : Own w.heap.size (w.alloc (.cells #[.int .u64 1] 76)) (.slice (some ⟨w.heap.size, 0, none⟩) 1 1) (wd (a ^ 0)) := by
    rw [Nat.pow_zero, wd_pos (by decide), show (1 : Nat) / 18446744073709551616 = 0 by decide, wd_zero]
    exact own_lit1 1 (Nat.le_refl _)
  have hb := (Below.refl w.heap.size w).alloc (Nat.le_refl _) (.cells #[.int .u64 1] 76)
  have HI := Lib.hid (And.intro h1 (And.intro hb (hx.below hb)))
  clear h1 hb hx
  go_enter Tryz.func129, Tryz.ntmps129
  go_wp2
  go_loopw [1, 5, 6] (fun i o b wr => ∃ (kk p q : Nat) (bs : List Int), i = .int .i64 kk ∧ Own w.heap.size wr o (wd (a ^ p)) ∧ Nm wr b bs (a ^ q) ∧ bs.length ≤ q * xs.length ∧ p + q * kk = k ∧ kk ≤ k ∧ Below w.heap.size w wr) (fun i _ _ _ => (intOf i).toNat)
  case atStart => exact ⟨k, 0, 1, xs, rfl, HI.out.1, by rw [Nat.pow_one]; exact HI.out.2.2, by omega, by omega, Nat.le_refl _, HI.out.2.1⟩
  case round =>
    obtain ⟨kk, p, q, bs, rfl, ho, hn, hbl, hpq, hkk, hb⟩ := hrel
    by_cases h0 : kk = 0
    · subst h0
      obtain rfl : p = k := by omega
      have hfin := HF.out _ _ ho hb
      clear ho hn hb hbl hpq
      go_wp2
      go_ret
      exact hfin
    · have hqk : q ≤ k := Nat.le_trans (Nat.le_mul_of_pos_right q (by omega)) (by omega : q * kk ≤ k)
      have hpk : p ≤ k := by omega
      have b1 : q * xs.length ≤ 20000000 := Nat.le_trans (Nat.mul_le_mul_right _ hqk) (by rw [Nat.mul_comm]; exact hs)
      have b2 : p * xs.length ≤ 20000000 := Nat.le_trans (Nat.mul_le_mul_right _ hpk) (by rw [Nat.mul_comm]; exact hs)
      have hol := wd_len_pow hlx p
      have hon := ho.nm (by omega)
      have hdiv : kk / 2 < kk := by omega
      have HH := Lib.hid (And.intro ho (And.intro hn (And.intro hbl (And.intro hpq hb))))
      have hm1 := mul_any hon hn (by omega)
      rw [← Nat.pow_add] at hm1
      have HM1 := Lib.hid hm1
      have hbb : q * xs.length + q * xs.length ≤ 40000000 := by omega
      clear ho hbl hpq hb hol hon hm1
      have hodd := bits_and_i64_one kk (by omega)
      have e2 : (kk : Int).fdiv (2 ^ min (Int.toNat 1) IntKind.i64.bits) = ((kk / 2 : Nat) : Int) := by
        show (kk : Int).fdiv 2 = _
        rw [Int.fdiv_eq_ediv_of_nonneg _ (by decide)]
        omega
      by_cases h2 : kk % 2 = 1
      · rw [decide_eq_true h2] at hodd
        by_cases h1 : 1 < kk
        · go_wp2_with fail
          refine HM1.out.mono ?_
          rintro e w2 ⟨v2, rfl, ho2, hb2⟩
          have hn2 := hn.below hb2
          have hm2 := mul_any hn2 hn2 (by have := HH.out.2.2.1; omega)
          rw [← Nat.pow_add] at hm2
          have H2 := Lib.hid (And.intro ho2 hb2)
          clear hn ho2 hb2 hn2
          go_wp2_with fail
          refine hm2.mono ?_
          rintro e w3 ⟨v3, rfl, ho3, hb3⟩
          have H3 := Lib.hid (And.intro ho3 hb3)
          clear hm2 ho3 hb3
          go_wp2
          go_roundw
          case rel =>
            obtain ⟨ho, hn, hbl, hpq, hb⟩ := HH.out
            obtain ⟨ho2, hb2⟩ := H2.out
            obtain ⟨ho3, hb3⟩ := H3.out
            have hl3 := wd_len_mul (a ^ q) (a ^ q)
            have hv := val_len_le hn.wf hn.val
            rw [← Nat.pow_add] at hl3
            refine ⟨kk / 2, p + q, q + q, _, rfl, (ho2.mono hb.size).below hb3, ho3.nm (by omega), by rw [Nat.add_mul]; omega, ?_, by omega, hb.trans ((below_trans hb2 hb3).mono hb.size)⟩
            have : (q + q) * (kk / 2) + q = q * kk := by
              obtain ⟨d, hd⟩ : ∃ d, kk = 2 * d + 1 := ⟨kk / 2, by omega⟩
              rw [hd, show (2 * d + 1) / 2 = d by omega]
              grind
            omega
          case measure => simp [intOf]; omega
        · obtain rfl : kk = 1 := by omega
          go_wp2_with fail
          refine HM1.out.mono ?_
          rintro e w2 ⟨v2, rfl, ho2, hb2⟩
          have H2 := Lib.hid (And.intro ho2 (And.intro hb2 (hn.below hb2)))
          clear hn ho2 hb2
          go_wp2
          go_roundw
          case rel =>
            obtain ⟨ho, hn, hbl, hpq, hb⟩ := HH.out
            obtain ⟨ho2, hb2, hn2⟩ := H2.out
            exact ⟨0, p + q, q, bs, rfl, ho2.mono hb.size, hn2, hbl, by omega, by omega, hb.trans (hb2.mono hb.size)⟩
          case measure => simp [intOf]
      · rw [decide_eq_false h2] at hodd
        have h1 : 1 < kk := by omega
        have hm2 := mul_any hn hn (by have := HH.out.2.2.1; omega)
        rw [← Nat.pow_add] at hm2
        clear hn
        go_wp2_with fail
        refine hm2.mono ?_
        rintro e w3 ⟨v3, rfl, ho3, hb3⟩
        have H3 := Lib.hid (And.intro ho3 hb3)
        clear hm2 ho3 hb3
        go_wp2
        go_roundw
        case rel =>
          obtain ⟨ho, hn, hbl, hpq, hb⟩ := HH.out
          obtain ⟨ho3, hb3⟩ := H3.out
          have hl3 := wd_len_mul (a ^ q) (a ^ q)
          have hv := val_len_le hn.wf hn.val
          rw [← Nat.pow_add] at hl3
          refine ⟨kk / 2, p, q + q, _, rfl, ho.below hb3, ho3.nm (by omega), by rw [Nat.add_mul]; omega, ?_, by omega, hb.trans (hb3.mono hb.size)⟩
          have : (q + q) * (kk / 2) = q * kk := by
            obtain ⟨d, hd⟩ : ∃ d, kk = 2 * d := ⟨kk / 2, by omega⟩
            rw [hd, show 2 * d / 2 = d by omega]
            grind
          omega
        case measure => simp [intOf]; omega
end Go.Proofs.YtkfpjhjmedodlaaGreatDoor

/- wide.Ten, wide.Digits: the walks. -/
set_option maxRecDepth 100000
namespace Go.Proofs.YtkfpjhjmedodlaaGreatDoor
open Go.RowKit Wd
namespace Wd
/-- How many decimal digits a number has. -/
def ndig (a : Nat) : Nat := if h : a = 0 then 0 else ndig (a / 10) + 1
termination_by a
decreasing_by omega
theorem ndig_zero : ndig 0 = 0 := by rw [ndig]; simp
theorem ndig_pos {a : Nat} (h : a ≠ 0) : ndig a = ndig (a / 10) + 1 := by rw [ndig]; simp [h]
theorem ndig_le_iff {a n : Nat} : ndig a ≤ n ↔ a < 10 ^ n := by
  induction n generalizing a with
  | zero =>
    by_cases h : a = 0
    · subst h; simp [ndig_zero]
    · rw [ndig_pos h]; simp; omega
  | succ n ih =>
    by_cases h : a = 0
    · subst h
      rw [ndig_zero]
      have := Nat.pow_pos (n := n + 1) (show 0 < 10 by decide)
      simp [this]
    · rw [ndig_pos h, Nat.succ_le_succ_iff, ih, Nat.pow_succ]
      omega
theorem lt_ten_ndig (a : Nat) : a < 10 ^ ndig a := ndig_le_iff.1 (Nat.le_refl _)
theorem ten_ndig_le {a : Nat} (h : a ≠ 0) : 10 ^ (ndig a - 1) ≤ a := by
  have h1 : ¬ ndig a ≤ ndig a - 1 := by rw [ndig_pos h]; omega
  rw [ndig_le_iff] at h1
  omega
set_option exponentiation.threshold 3000 in
theorem ten_two : 10 ^ 643 ≤ 2 ^ 2136 := by decide
set_option exponentiation.threshold 3000 in
theorem ten_le_two {m e : Nat} (h : 2136 * m ≤ 643 * e) : 10 ^ m ≤ 2 ^ e := by
  have h1 : (10 ^ m) ^ 643 ≤ (2 ^ e) ^ 643 := by
    rw [← Nat.pow_mul, ← Nat.pow_mul, Nat.mul_comm m, Nat.pow_mul]
    calc (10 ^ 643) ^ m ≤ (2 ^ 2136) ^ m := Nat.pow_le_pow_left ten_two m
      _ = 2 ^ (2136 * m) := by rw [← Nat.pow_mul]
      _ ≤ 2 ^ (e * 643) := Nat.pow_le_pow_right (by decide) (by omega)
  exact (Nat.pow_le_pow_iff_left (by decide)).1 h1
/-- Where wide.Digits begins: not above the number of digits. -/
theorem digits_start {a L : Nat} (h : a ≠ 0) (hL : nbits a = L) (hb : L ≤ 20000000) : (L - 1) * 30103 / 100000 ≤ ndig a := by
  have h2 := two_nbits_le h
  rw [hL] at h2
  by_cases hn : (L - 1) * 30103 / 100000 = 0
  · omega
  · have h1 : ¬ ndig a ≤ (L - 1) * 30103 / 100000 - 1 := by
      rw [ndig_le_iff]
      have := ten_le_two (m := (L - 1) * 30103 / 100000 - 1) (e := L - 1) (by omega)
      omega
    omega
end Wd
def IntPost (n : Int) (w : World) (e : Ending) (w' : World) : Prop := e = .returned (.int .i64 n) ∧ Below w.heap.size w w'

set_option maxHeartbeats 1000000 in
theorem ten_any (w : World) (k : Nat) (hk : k ≤ 20000000) : Calls Tryz.prog 60 #[.int .i64 k] w (Res (10 ^ k) w) := by
  have h4 : Nm (w.alloc (.cells #[.int .u64 5] 76)) (.slice (some ⟨w.heap.size, 0, none⟩) 1 1) [5] 5 := ⟨(own_lit1 (B := w.heap.size) 5 (Nat.le_refl _)).rd, wf_one (by decide) (by decide), by simp [val_one], by simp⟩
  have hp := Lib.hid (pow_any h4 k (by simp; omega) (by omega))
  have hb := Lib.hid ((Below.refl w.heap.size w).alloc (Nat.le_refl _) (.cells #[.int .u64 5] 76))
  have hl := wd_len_pow (a := 5) (l0 := 1) (wd_len_le (by decide)) k
  clear h4
  go_enter Tryz.func60, Tryz.ntmps60
  go_wp2_with fail
  refine hp.out.mono ?_
  rintro e w1 ⟨v1, rfl, ho1, hb1⟩
  have hn1 := ho1.nm (by omega)
  have H1 := Lib.hid hb1
  clear ho1 hb1 hp
  go_wp2_with fail
  refine (shl_any hn1 k (by omega)).mono ?_
  rintro e w2 ⟨v2, rfl, ho2, hb2⟩
  rw [← Nat.mul_pow] at ho2
  have hfin : Res (10 ^ k) w (.returned v2) w2 := ⟨v2, rfl, ho2.mono (Nat.le_trans hb.out.size H1.out.size), below_trans hb.out (below_trans H1.out hb2)⟩
  clear ho2 hb2 hn1
  go_wp2
  go_ret
  exact hfin

theorem wd_len_ten (k : Nat) : (wd (10 ^ k)).length ≤ k + 1 := by
  have := wd_len_pow (a := 10) (l0 := 1) (wd_len_le (by decide)) k
  omega

set_option maxHeartbeats 2000000 in
theorem digits_any {w : World} {x : Value} {xs : List Int} {a : Nat} (hx : Nm w x xs a) (hs : xs.length ≤ 300000) :
    Calls Tryz.prog 58 #[x] w (IntPost (ndig a) w) := by
  have hz := zero_any hx
  have hl := len_any hx
  have hlen : nbits a ≤ 64 * xs.length := by
    apply nbits_le_iff.2
    have := val_lt hx.wf
    rw [hx.val, pw_two] at this
    exact Int.ofNat_lt.1 this
  go_enter Tryz.func58, Tryz.ntmps58
  go_wp2_with fail
  refine hz.mono ?_
  rintro e w' ⟨rfl, rfl⟩
  clear hz
  by_cases ha : a = 0
  · subst ha
    clear hl
    go_wp2
    go_ret
    exact ⟨by rw [ndig_zero]; rfl, Below.refl _ _⟩
  · rw [decide_eq_false ha]
    go_wp2_with fail
    refine hl.mono ?_
    rintro e w' ⟨rfl, rfl⟩
    clear hl
    have hst := digits_start ha rfl (by omega)
    have hn1 : 1 ≤ nbits a := by unfold nbits; rw [if_neg ha]; omega
    have HN := Lib.hid (show ((nbits a : Int) - 1) * 30103 / 100000 = (((nbits a - 1) * 30103 / 100000 : Nat) : Int) by omega)
    have hdb : ndig a ≤ nbits a := ndig_le_iff.2 (Nat.lt_of_lt_of_le (lt_two_nbits a) (Nat.pow_le_pow_left (by decide) _))
    have hfin : Hid (∀ (k : Nat) (wr : World), k ≤ ndig a → a < 10 ^ k → Below w.heap.size w wr → IntPost (ndig a) w (.returned (.int .i64 k)) wr) := fun k wr h1 h2 h3 => ⟨by have := ndig_le_iff.2 h2; congr 2; omega, h3⟩
    have hnext : Hid (∀ k : Nat, 10 ^ k ≤ a → k + 1 ≤ ndig a) := fun k h => by
      have : ¬ ndig a ≤ k := fun h2 => by have := ndig_le_iff.1 h2; omega
      omega
    have hnb : (nbits a : Int) ≤ 19200000 := by omega
    have hnb1 : (1 : Int) ≤ nbits a := by omega
    clear hn1
    generalize ndig a = D at *
    generalize hN : nbits a = N at *
    have HNN := Lib.hid hN
    have HX := Lib.hid hx
    clear hN hx
    go_wp2
    go_loopw [3] (fun i wr => ∃ k : Nat, k ≤ D ∧ i = .int .i64 k ∧ Below w.heap.size w wr) (fun i _ => D - (intOf i).toNat)
    case atStart => exact ⟨_, hst, by rw [← HN.out], Below.refl _ _⟩
    case round =>
      obtain ⟨k, hk, rfl, hb⟩ := hrel
      have ht := ten_any wr k (by omega)
      have hkb : k ≤ 19200000 := by omega
      have HB := Lib.hid hb
      clear hb
      go_wp2_with fail
      refine ht.mono ?_
      rintro e w2 ⟨v2, rfl, ho2, hb2⟩
      have hl2 := wd_len_ten k
      have hn2 := ho2.nm (by omega)
      have hc := cmp_any (HX.out.below (HB.out.trans (hb2.mono HB.out.size))) hn2
      have H2 := Lib.hid hb2
      clear ht ho2 hb2 hn2
      go_wp2_with fail
      refine hc.mono ?_
      rintro e w3 ⟨rfl, n3, rfl⟩
      clear hc
      have hb3 : Below w.heap.size w (w2.drewN n3) := Drew.step' (HB.out.trans (H2.out.mono HB.out.size)) n3
      have HB3 := Lib.hid hb3
      clear hb3
      by_cases hlt : a < 10 ^ k
      · have hF := Lib.hid (hfin.out k _ hk hlt HB3.out)
        rw [ncmp_lt hlt]
        clear hlt
        go_wp2
        go_ret
        exact hF.out
      · have hN1 := hnext.out k (by omega)
        have hc1 : 0 ≤ ncmp a (10 ^ k) := by unfold ncmp; rw [if_neg hlt]; split <;> decide
        clear hlt
        go_wp2
        go_roundw
        case rel => exact ⟨k + 1, hN1, by go_num, HB3.out⟩
        case measure => simp [intOf]; omega
end Go.Proofs.YtkfpjhjmedodlaaGreatDoor

/- wide.Strip: the walk. -/
set_option maxRecDepth 100000
namespace Go.Proofs.YtkfpjhjmedodlaaGreatDoor
open Go.RowKit Wd
namespace Wd
/-- How often 10 divides a number; 0 for 0. -/
def tz10 (a : Nat) : Nat := if h : a = 0 then 0 else if a % 10 = 0 then tz10 (a / 10) + 1 else 0
termination_by a
decreasing_by omega
theorem tz10_zero : tz10 0 = 0 := by rw [tz10]; simp
theorem tz10_mul {a : Nat} (h : a ≠ 0) (k : Nat) : tz10 (a * 10 ^ k) = tz10 a + k := by
  induction k with
  | zero => simp
  | succ k ih =>
    have hp : 0 < a * 10 ^ k := Nat.mul_pos (by omega) (Nat.pow_pos (by decide))
    have e : a * 10 ^ (k + 1) = 10 * (a * 10 ^ k) := by rw [Nat.pow_succ]; grind
    rw [e, tz10, dif_neg (by omega), if_pos (by omega), show 10 * (a * 10 ^ k) / 10 = a * 10 ^ k by omega, ih]
    omega
theorem tz10_not {a : Nat} (h : a % 10 ≠ 0) : tz10 a = 0 := by
  rw [tz10]
  split
  · rfl
  · first | rfl | (rw [if_neg h])
/-- What is left of a number without its factors 10. -/
def rest10 (a : Nat) : Nat := a / 10 ^ tz10 a
theorem rest10_mul {a : Nat} (h : a ≠ 0) (k : Nat) : rest10 (a * 10 ^ k) = rest10 a := by
  unfold rest10
  rw [tz10_mul h, Nat.add_comm, Nat.pow_add, Nat.mul_comm, Nat.mul_div_mul_left _ _ (Nat.pow_pos (by decide))]
theorem strip_step {q s : Nat} (hq : q ≠ 0) (hs : 1 ≤ s) : 3 * q + 2 * s < 3 * (q * 10 ^ s) + s := by
  have h1 : 9 * s + 1 ≤ 10 ^ s := by
    clear hq hs
    induction s with
    | zero => simp
    | succ s ih => rw [Nat.pow_succ]; omega
  have h2 : q * (9 * s + 1) ≤ q * 10 ^ s := Nat.mul_le_mul_left q h1
  have h3 : s ≤ q * s := Nat.le_mul_of_pos_left s (by omega)
  have h4 : q * (9 * s + 1) = 9 * (q * s) + q := by grind
  omega
theorem pow_le_len {a b k l : Nat} (hb : 2 ≤ b) (h : b ^ k ≤ a) (hl : (wd a).length ≤ l) : k ≤ 64 * l := by
  have h1 := lt_pw_len a
  rw [pw_two] at h1
  have h2 : a < 2 ^ (64 * (wd a).length) := by omega
  have h3 : 2 ^ k ≤ b ^ k := Nat.pow_le_pow_left hb k
  have h4 : 2 ^ k < 2 ^ (64 * (wd a).length) := by omega
  have h5 := (Nat.pow_lt_pow_iff_right (by decide : 1 < 2)).1 h4
  omega
theorem i64_small {n : Int} (h : -9223372036854775808 ≤ n) (h1 : n ≤ 9223372036854775807) : IntKind.i64.wrap n = n := by rw [IntKind.wrap_i64]; omega
theorem half_cast (s : Nat) : Value.int .i64 ((s : Int) / 2) = Value.int .i64 ((s / 2 : Nat) : Int) := by congr 1
theorem tz_le_len {a l : Nat} (h0 : a ≠ 0) (hl : (wd a).length ≤ l) : tz a ≤ 64 * l := by
  obtain ⟨m, hm⟩ := tz_spec h0
  refine pow_le_len (b := 2) (Nat.le_refl _) ?_ hl
  conv => rhs; rw [hm]
  exact Nat.le_mul_of_pos_right _ (by omega)
theorem rest10_not {a : Nat} (h : a % 10 ≠ 0) : rest10 a = a := by unfold rest10; rw [tz10_not h]; simp
end Wd
/-- Strip's results: the rest, and how many factors there were. -/
def StripPost (a : Nat) (w : World) (e : Ending) (w' : World) : Prop := ∃ v, e = .returned (.tuple #[v, .int .i64 (tz10 a)]) ∧ Own w.heap.size w' v (wd (rest10 a)) ∧ Below w.heap.size w w'

set_option maxHeartbeats 2000000 in
theorem strip_any {w : World} {x : Value} {xs : List Int} {a : Nat} (hx : Nm w x xs a) (hG : Glob w) (hs : xs.length ≤ 10000) :
    Calls Tryz.prog 159 #[x] w (StripPost a w) := by
  have ht := trim_any hx
  have hlx := val_len_le hx.wf hx.val
  clear hx
  go_enter Tryz.func159, Tryz.ntmps159
  go_wp2_with fail
  refine ht.mono ?_
  rintro e w1 ⟨v, rfl, ho, hb⟩
  by_cases ha : a = 0
  · subst ha
    rw [wd_zero] at ho
    have hfin : StripPost 0 w (.returned (.tuple #[.slice none 0 0, .int .i64 0])) w1 := ⟨_, by rw [tz10_zero]; rfl, by unfold rest10; simp [wd_zero]; exact Own.nil _ _, hb⟩
    obtain ⟨A, n, cap, rfl⟩ : ∃ A n cap, v = .slice A n cap := by
      rcases ho.2 with ⟨hv, _⟩ | ⟨g, cap, cur, hv, _⟩
      · exact ⟨_, _, _, hv⟩
      · exact ⟨_, _, _, hv⟩
    have hn : n = 0 := by
      rcases ho.2 with ⟨hv, _⟩ | ⟨g, cap, cur, hv, _⟩ <;> simp at hv <;> omega
    subst hn
    clear ho hb ht
    go_wp2
    go_ret2
    exact hfin
  · obtain ⟨g, cap, rfl, -, -, -⟩ := ho.cases (fun e => ha (wd_eq_nil.1 e))
    have hp := List.length_pos_iff.2 (fun e => ha (wd_eq_nil.1 e))
    have h0 : (((wd a).length : Int) == 0) = false := beq_eq_false_iff_ne.2 (by omega)
    have HI := Lib.hid (And.intro ho (And.intro hb ha))
    have HF : Hid (∀ (v : Value) (n : Nat) (m : Nat) (wr : World), m * 10 ^ n = a → m % 10 ≠ 0 → Own w.heap.size wr v (wd m) → Below w.heap.size w wr → StripPost a w (.returned (.tuple #[v, .int .i64 n])) wr) := fun v n m wr h1 h2 h3 h4 => by
      have hm : m ≠ 0 := fun e => by subst e; simp at h2
      subst h1
      exact ⟨v, by rw [tz10_mul hm, tz10_not h2, Nat.zero_add], by rw [rest10_mul hm, rest10_not h2]; exact h3, h4⟩
    clear ho hb ht ha
    go_wp2
    go_loopg [0, 4, 5] (3 * a + 1) (fun k s0 s4 s5 wr => ∃ (m n s : Nat), s4 = .int .i64 n ∧ s5 = .int .i64 s ∧ Own w.heap.size wr s0 (wd m) ∧ Below w.heap.size w wr ∧ m * 10 ^ n = a ∧ 1 ≤ s ∧ s ≤ 1280000 ∧ 3 * m + s ≤ k)
    case atStart =>
      obtain ⟨ho, hb, ha⟩ := HI.out
      exact ⟨a, 0, 1, rfl, rfl, ho, hb, by simp, Nat.le_refl _, by decide, Nat.le_refl _⟩
    case round =>
      obtain ⟨m, n, s, rfl, rfl, ho, hb, hmn, hs1, hs2, hk⟩ := hrel
      have hma : m ≤ a := by rw [← hmn]; exact Nat.le_mul_of_pos_right m (Nat.pow_pos (by decide))
      have hlm : (wd m).length ≤ 10000 := Nat.le_trans (wd_len_mono hma) (by omega)
      have hm0 : m ≠ 0 := fun e => by subst e; exact HI.out.2.2 (by rw [← hmn]; simp)
      have hn2 : n ≤ 640000 := by
        refine pow_le_len (a := a) (b := 10) (l := 10000) (by decide) ?_ (by omega)
        rw [← hmn]
        exact Nat.le_mul_of_pos_left _ (by omega)
      have htz := tz_le_len hm0 hlm
      have htr := trailing_any (ho.nm (by omega)) (hG.below hb)
      have HH := Lib.hid (And.intro ho (And.intro hb (And.intro hmn (And.intro hma (And.intro hk hlm)))))
      clear ho hb hmn hma hlm hk
      go_wp2_with fail
      refine htr.mono ?_
      rintro e w2 ⟨rfl, rfl⟩
      by_cases hts : tz m < s
      · by_cases h1 : s = 1
        · subst h1
          have hm10 : m % 10 ≠ 0 := by
            have := (tz_lt_iff hm0).1 hts
            omega
          have HM := Lib.hid hm10
          clear hm10
          go_wp2
          go_ret2
          obtain ⟨ho, hb, hmn, hma, hk, hlm⟩ := HH.out
          exact HF.out _ _ _ _ hmn HM.out ho hb
        · have h1b : ((s : Int) == 1) = false := beq_eq_false_iff_ne.2 (by omega)
          go_wp2
          go_roundg (3 * m + s / 2)
          case measure => obtain ⟨ho, hb, hmn, hma, hk, hlm⟩ := HH.out; omega
          case rel =>
            obtain ⟨ho, hb, hmn, hma, hk, hlm⟩ := HH.out
            exact ⟨m, n, s / 2, rfl, half_cast s, ho, hb, hmn, by omega, by omega, Nat.le_refl _⟩
      · have hT := ten_any wr s (by omega)
        have hs640 : s ≤ 640000 := by omega
        clear htz
        go_wp2_with fail
        refine hT.mono ?_
        rintro e w2 ⟨v2, rfl, ho2, hb2⟩
        have hl2 := wd_len_ten s
        have hp10 : 10 ^ s ≠ 0 := Nat.pos_iff_ne_zero.1 (Nat.pow_pos (by decide))
        have hDM := divMod_any ((HH.out.1.nm (Nat.le_trans HH.out.2.2.2.2.2 (by decide))).below hb2) (ho2.nm (by omega)) hp10 (by have := HH.out.2.2.2.2.2; omega)
        have H2 := Lib.hid hb2
        clear hT ho2 hb2 hp10 hl2
        go_wp2_with fail
        refine hDM.mono ?_
        rintro e w3 ⟨v3, u3, rfl, ho3, hor, hb3⟩
        have hr3 : (wd (m % 10 ^ s)).length ≤ 100000000 := Nat.le_trans (wd_len_mono (Nat.mod_le _ _)) (Nat.le_trans HH.out.2.2.2.2.2 (by decide))
        have hZ := zero_any (hor.nm hr3)
        have hq3 : IntKind.i64.wrap ((n : Int) + s) = ((n + s : Nat) : Int) := by rw [i64_small (by omega) (by omega)]; omega
        have hq4 : IntKind.i64.wrap (2 * (s : Int)) = ((2 * s : Nat) : Int) := by rw [i64_small (by omega) (by omega)]; omega
        have H3 := Lib.hid (And.intro ho3 hb3)
        clear hDM ho3 hor hb3 hr3
        go_wp2_with fail
        refine hZ.mono ?_
        rintro e w4 ⟨rfl, rfl⟩
        clear hZ
        by_cases hz : m % 10 ^ s = 0
        · have hzd : decide (m % 10 ^ s = 0) = true := decide_eq_true hz
          have HZ := Lib.hid hz
          clear hz
          go_wp2
          go_roundg (3 * (m / 10 ^ s) + 2 * s)
          case measure =>
            obtain ⟨ho, hb, hmn, hma, hk, hlm⟩ := HH.out
            have hz := HZ.out
            have hm : m / 10 ^ s * 10 ^ s = m := by have := Nat.div_add_mod m (10 ^ s); rw [hz, Nat.mul_comm] at this; omega
            have h := strip_step (q := m / 10 ^ s) (s := s) (fun e => hm0 (by rw [← hm, e]; simp)) hs1
            omega
          case rel =>
            obtain ⟨ho, hb, hmn, hma, hk, hlm⟩ := HH.out
            obtain ⟨ho3, hb3⟩ := H3.out
            have hb2 := H2.out
            have hz := HZ.out
            have hm : m / 10 ^ s * 10 ^ s = m := by have := Nat.div_add_mod m (10 ^ s); rw [hz, Nat.mul_comm] at this; omega
            have hbb := below_trans (below_trans hb hb2) hb3
            refine ⟨m / 10 ^ s, n + s, 2 * s, rfl, rfl, ho3.mono (below_trans hb hb2).size, hbb, ?_, by omega, by omega, Nat.le_refl _⟩
            rw [Nat.add_comm, Nat.pow_add, ← Nat.mul_assoc, hm]
            exact hmn
        · have hzd : decide (m % 10 ^ s = 0) = false := decide_eq_false hz
          have HZ := Lib.hid hz
          clear hz
          by_cases h1 : s = 1
          · subst h1
            go_wp2
            go_ret2
            obtain ⟨ho, hb, hmn, hma, hk, hlm⟩ := HH.out
            obtain ⟨ho3, hb3⟩ := H3.out
            have hbb := below_trans H2.out hb3
            exact HF.out _ _ _ _ hmn (by have := HZ.out; rwa [Nat.pow_one] at this) (ho.below hbb) (below_trans hb hbb)
          · have h1b : ((s : Int) == 1) = false := beq_eq_false_iff_ne.2 (by omega)
            go_wp2
            go_roundg (3 * m + s / 2)
            case measure => obtain ⟨ho, hb, hmn, hma, hk, hlm⟩ := HH.out; omega
            case rel =>
              obtain ⟨ho, hb, hmn, hma, hk, hlm⟩ := HH.out
              obtain ⟨ho3, hb3⟩ := H3.out
              have hbb := below_trans H2.out hb3
              exact ⟨m, n, s / 2, rfl, half_cast s, ho.below hbb, below_trans hb hbb, hmn, by omega, by omega, Nat.le_refl _⟩
end Go.Proofs.YtkfpjhjmedodlaaGreatDoor
