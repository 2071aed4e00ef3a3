/- What wide.Len, wide.Trailing, wide.Shl, wide.Sub, wide.Shr give, for rows of words that lie whole in memory. -/
import Derived.Test.YtkfpjhjmedodlaaGreatDoorShelf
import Derived.Test.YtkfpjhjmedodlaaGreatDoorPb
import Derived.Shelf.Spec.TrailingZeros
/- wide.Len and wide.Trailing: the walks. -/
set_option maxRecDepth 100000
namespace Go.Proofs.YtkfpjhjmedodlaaGreatDoor
open Go.RowKit Wd
namespace Wd
/-- How many bits a number has. -/
def nbits (a : Nat) : Nat := if a = 0 then 0 else Nat.log2 a + 1
theorem nbits_zero : nbits 0 = 0 := rfl
theorem lt_two_nbits (a : Nat) : a < 2 ^ nbits a := by
  unfold nbits
  split
  · omega
  · exact Nat.lt_log2_self
theorem two_nbits_le {a : Nat} (h : a ≠ 0) : 2 ^ (nbits a - 1) ≤ a := by
  unfold nbits
  rw [if_neg h]
  exact Nat.log2_self_le h
theorem nbits_unique {a k : Nat} (h0 : 2 ^ k ≤ a) (h1 : a < 2 ^ (k + 1)) : nbits a = k + 1 := by
  have h : a ≠ 0 := by have := Nat.two_pow_pos k; omega
  unfold nbits
  rw [if_neg h]
  have a1 := (Nat.le_log2 h).2 h0
  have a2 := (Nat.log2_lt h).2 h1
  omega
theorem nbits_le_iff {a k : Nat} : nbits a ≤ k ↔ a < 2 ^ k := by
  constructor
  · intro h
    exact Nat.lt_of_lt_of_le (lt_two_nbits a) (Nat.pow_le_pow_right (by decide) h)
  · intro h
    by_cases ha : a = 0
    · subst ha; simp [nbits]
    · unfold nbits
      rw [if_neg ha]
      exact (Nat.log2_lt ha).2 h
theorem bitLen_spec (x : Nat) (h0 : x ≠ 0) (h : x < 2 ^ 64) : 2 ^ (Lib.bitLen x - 1) ≤ x ∧ x < 2 ^ Lib.bitLen x ∧ 0 < Lib.bitLen x ∧ Lib.bitLen x ≤ 64 := by
  have key : ∀ (k x : Nat), x < 2 ^ k → k ≤ 64 → x ≠ 0 → 2 ^ (Lib.bitLen x - 1) ≤ x ∧ x < 2 ^ Lib.bitLen x ∧ 0 < Lib.bitLen x ∧ Lib.bitLen x ≤ k := by
    intro k
    induction k with
    | zero => intro x hx _ h0; simp at hx; exact absurd hx h0
    | succ k ih =>
      intro x hx hk h0
      have hb := Lib.bitLen_half x h0 (Nat.lt_of_lt_of_le hx (Nat.pow_le_pow_right (by decide) hk))
      by_cases h1 : x / 2 = 0
      · have : x = 1 := by omega
        subst this
        have e : Lib.bitLen 1 = 1 := by decide
        rw [e]
        simp
      · obtain ⟨i1, i2, i3, i4⟩ := ih (x / 2) (by rw [Nat.pow_succ] at hx; omega) (by omega) h1
        rw [hb]
        obtain ⟨m, hm⟩ : ∃ m, Lib.bitLen (x / 2) = m + 1 := ⟨Lib.bitLen (x / 2) - 1, by omega⟩
        rw [hm] at i1 i2 i4 ⊢
        simp only [Nat.add_sub_cancel] at i1
        have e1 : 1 + (m + 1) - 1 = m + 1 := by omega
        have e2 : 1 + (m + 1) = (m + 1) + 1 := by omega
        rw [e1, e2, Nat.pow_succ 2 (m + 1), Nat.pow_succ] at *
        omega
  exact key 64 x h (Nat.le_refl _) h0
theorem pw_two (n : Nat) : pw n = ((2 ^ (64 * n) : Nat) : Int) := by
  rw [pw_eq, B_eq, Nat.pow_mul]
  simp
/-- The bits of a number out of its highest word. -/
theorem nbits_top {a : Nat} (h : a ≠ 0) (t : Nat) (ht : wa (wd a) ((wd a).length - 1) = t) : t ≠ 0 ∧ t < 2 ^ 64 ∧ nbits a = 64 * ((wd a).length - 1) + Lib.bitLen t := by
  have hl : (wd a).length ≠ 0 := fun e => h (wd_eq_nil.1 (List.length_eq_zero_iff.1 e))
  have hc := canon_wd a
  have hw := wf_at (wf_wd a) ((wd a).length - 1)
  have ht0 : t ≠ 0 := by
    rintro rfl
    unfold Canon at hc
    rw [List.getLast?_eq_getElem?] at hc
    apply hc
    rw [wa_lt (by omega)] at ht
    rw [List.getElem?_eq_getElem (by omega), ht]
    rfl
  have ht1 : t < 2 ^ 64 := by rw [ht, B_eq] at hw; omega
  refine ⟨ht0, ht1, ?_⟩
  have hv := val_split (wd a) ((wd a).length - 1) (by omega)
  rw [val_wd, val_drop _ _ (by omega), show (wd a).length - 1 + 1 = (wd a).length by omega, List.drop_length, val_nil, ht] at hv
  have h1 := val_lt (wf_take (wf_wd a) ((wd a).length - 1))
  have h2 := val_nonneg (wf_take (wf_wd a) ((wd a).length - 1))
  rw [List.length_take, Nat.min_eq_left (by omega)] at h1
  rw [pw_two] at hv h1
  obtain ⟨b1, b2, b3, -⟩ := bitLen_spec t ht0 ht1
  obtain ⟨m, hm⟩ : ∃ m, Lib.bitLen t = m + 1 := ⟨Lib.bitLen t - 1, by omega⟩
  rw [hm] at b1 b2 ⊢
  simp only [Nat.add_sub_cancel] at b1
  have e1 : (2 ^ (64 * ((wd a).length - 1)) : Nat) * t ≤ a := by
    have : (((2 ^ (64 * ((wd a).length - 1)) : Nat) * t : Nat) : Int) ≤ a := by
      rw [hv, Int.natCast_mul]
      simp
      exact Int.le_add_of_nonneg_left h2
    omega
  have e2 : a < (2 ^ (64 * ((wd a).length - 1)) : Nat) * (t + 1) := by
    have : (a : Int) < (((2 ^ (64 * ((wd a).length - 1)) : Nat) * (t + 1) : Nat) : Int) := by
      rw [hv, Int.natCast_mul]
      simp only [Int.mul_zero, Int.add_zero, Int.natCast_add, Int.mul_add]
      omega
    omega
  rw [← Nat.add_assoc]
  apply nbits_unique
  · rw [Nat.pow_add]
    exact Nat.le_trans (Nat.mul_le_mul_left _ b1) e1
  · rw [Nat.add_assoc, Nat.pow_add]
    exact Nat.lt_of_lt_of_le e2 (Nat.mul_le_mul_left _ b2)
/-- How often 2 divides a number; 0 for 0. -/
def tz (a : Nat) : Nat := if h : a = 0 then 0 else if a % 2 = 1 then 0 else tz (a / 2) + 1
termination_by a
decreasing_by omega
theorem tz_zero : tz 0 = 0 := by rw [tz]; simp
theorem tz_eq (k m : Nat) : tz (2 ^ k * (2 * m + 1)) = k := by
  induction k with
  | zero => rw [tz]; simp
  | succ k ih =>
    have h0 : 2 ^ (k + 1) * (2 * m + 1) = 2 * (2 ^ k * (2 * m + 1)) := by rw [Nat.pow_succ]; grind
    have hp : 0 < 2 ^ k * (2 * m + 1) := Nat.mul_pos (Nat.two_pow_pos k) (by omega)
    rw [tz, dif_neg (by omega), h0, if_neg (by omega), show 2 * (2 ^ k * (2 * m + 1)) / 2 = 2 ^ k * (2 * m + 1) by omega, ih]
theorem tz_spec {a : Nat} (h : a ≠ 0) : ∃ m, a = 2 ^ tz a * (2 * m + 1) := by
  induction a using Nat.strongRecOn with
  | ind a ih =>
    rw [tz, dif_neg h]
    split
    · exact ⟨a / 2, by simp; omega⟩
    · obtain ⟨m, hm⟩ := ih (a / 2) (by omega) (by omega)
      refine ⟨m, ?_⟩
      rw [Nat.pow_succ, Nat.mul_assoc, Nat.mul_comm 2, ← Nat.mul_assoc, ← hm]
      omega
theorem tz_word {xs : List Int} {a k x : Nat} (hw : Wf xs) (hv : val xs = a) (hk : k < xs.length) (hz : ∀ t, t < k → wa xs t = 0) (hx : wa xs k = x) (h0 : x ≠ 0) (h1 : x < 2 ^ 64) : tz a = 64 * k + Lib.ctz 64 x := by
  obtain ⟨m, hm, hc⟩ := Lib.ctzFrom_spec 64 x (by omega) h1
  have hcz : Lib.ctzFrom 64 x = Lib.ctz 64 x := by unfold Lib.ctz; rw [if_neg h0]
  rw [hcz] at hm hc
  have hs := val_split xs k (by omega)
  have ht : val (xs.take k) = 0 := by
    have e : xs.take k = List.replicate k 0 := by
      apply List.ext_getElem (by simp; omega)
      intro n a1 a2
      rw [List.length_take] at a1
      have := hz n (by omega)
      rw [wa_lt (by omega)] at this
      simp [this]
    rw [e, val_zeros]
  rw [ht, val_drop xs k hk, hv, hx, pw_two, B_eq] at hs
  have hn := val_nonneg (wf_drop hw (k + 1))
  obtain ⟨q, hq⟩ := Int.eq_ofNat_of_zero_le hn
  rw [hq] at hs
  have ha : a = 2 ^ (64 * k) * (x + 18446744073709551616 * q) := by
    have : (a : Int) = ((2 ^ (64 * k) * (x + 18446744073709551616 * q) : Nat) : Int) := by
      rw [hs, Int.natCast_mul]
      simp
    omega
  have e64 : (18446744073709551616 : Nat) = 2 ^ Lib.ctz 64 x * 2 ^ (63 - Lib.ctz 64 x) * 2 := by
    rw [← Nat.pow_add, ← Nat.pow_succ, show (Lib.ctz 64 x + (63 - Lib.ctz 64 x)).succ = 64 by omega]
  have hfin : a = 2 ^ (64 * k + Lib.ctz 64 x) * (2 * (m + 2 ^ (63 - Lib.ctz 64 x) * q) + 1) := by
    rw [ha, e64, Nat.pow_add]
    generalize Lib.ctz 64 x = c at *
    rw [hm]
    grind
  rw [hfin, tz_eq]
end Wd

/-- The table of bits.TrailingZeros64 lies in memory. -/
def Glob (w : World) : Prop := TabAt 2 Lib.deBruijn64tab w
theorem Glob.below {w w' : World} (h : Glob w) (hb : Below w.heap.size w w') : Glob w' := fun j hj => by
  rw [hb.cell (lt_of_cell (h j hj))]
  exact h j hj

set_option maxHeartbeats 1000000 in
theorem tz64_core (x k idx : Nat) (w : World) (hx0 : ((x : Int) == 0) = false)
    (key : IntKind.u64.wrap (bits BinOp.and IntKind.u64 (x : Int) (IntKind.u64.wrap (-(x : Int))) * 285870213051353865) / 288230376151711744 = (idx : Int))
    (hi : idx < 64) (hk : k < 64) (hcell : w.cell? ⟨2, idx, none⟩ = some (.int .u8 k)) :
    Calls Tryz.prog 161 #[.int .u64 x] w fun e w' => e = .returned (.int .i64 k) ∧ w = w' := by
  go_enter Tryz.func161, Tryz.ntmps161
  go_wp2_with (simp only [key])
  go_ret
  exact ⟨rfl, rfl⟩
theorem tz64 {x : Nat} (hx : x < 2 ^ 64) (h0 : x ≠ 0) {w : World} (hG : Glob w) : Calls Tryz.prog 161 #[.int .u64 x] w fun e w' => e = .returned (.int .i64 (Lib.ctz 64 x)) ∧ w = w' := by
  obtain ⟨hlow, hk⟩ := Lib.lowest_bit 64 x h0 hx
  obtain ⟨hi, htab⟩ := Lib.deBruijn64_at _ hk
  have hcell := hG _ hi
  rw [htab] at hcell
  exact tz64_core x _ _ w (beq_eq_false_iff_ne.2 (by omega)) (tz64_key x _ hx h0 hlow) hi hk hcell

set_option maxHeartbeats 1000000 in
theorem len_any {w : World} {v : Value} {xs : List Int} {a : Nat} (h : Nm w v xs a) : Calls Tryz.prog 122 #[v] w fun e w' => e = .returned (.int .i64 (nbits a)) ∧ w = w' := by
  have hv := view_any h
  have hlx := val_len_le h.wf h.val
  have hlx2 := h.len
  go_enter Tryz.func122, Tryz.ntmps122
  go_wp2_with fail
  refine hv.mono ?_
  rintro e w' ⟨rfl, v', rfl, hr, hs⟩
  clear hv h
  by_cases ha : a = 0
  · subst ha
    rw [wd_zero] at *
    rcases hs with ⟨-, rfl, rfl⟩ | ⟨b, off, m, cap, rfl, rfl, hl⟩
    all_goals
      go_wp2
      go_ret
      exact ⟨rfl, rfl⟩
  · rcases hs with ⟨h0, -, -⟩ | ⟨b, off, m, cap, rfl, rfl, hl⟩
    · exact absurd h0 ha
    have hap := List.length_pos_iff.2 (fun e => ha (wd_eq_nil.1 e))
    have hw := wf_at (wf_wd a) ((wd a).length - 1)
    obtain ⟨t, ht⟩ := Int.eq_ofNat_of_zero_le hw.1
    obtain ⟨t0, t1, hn⟩ := nbits_top ha t ht
    have hc := hr.at ((wd a).length - 1) (by omega)
    rw [ht] at hc
    obtain ⟨-, -, -, hbl⟩ := Wd.bitLen_spec t t0 t1
    have hn' : (nbits a : Int) = 64 * (((wd a).length : Int) - 1) + (Lib.bitLen t : Int) := by rw [hn]; omega
    have HN := Lib.hid hn'
    have hx0 : (((wd a).length : Int) == 0) = false := beq_eq_false_iff_ne.2 (by omega)
    have hlen := Tryz.bits_Len64 (t : Int) w (by omega) (by omega)
    rw [show (t : Int).toNat = t by omega] at hlen
    have HH := Lib.hid hlen
    clear hn hn' hr hw ht t0 t1 hlen
    generalize (wd a).length = L at *
    go_wp2_with fail
    refine HH.out.mono ?_
    rintro e w' ⟨rfl, rfl⟩
    go_wp2
    go_ret
    exact ⟨by rw [HN.out]; rfl, rfl⟩

set_option maxHeartbeats 1000000 in
theorem trailing_any {w : World} {v : Value} {xs : List Int} {a : Nat} (h : Nm w v xs a) (hG : Glob w) : Calls Tryz.prog 102 #[v] w fun e w' => e = .returned (.int .i64 (tz a)) ∧ w = w' := by
  have hlx2 := h.len
  have hwf := h.wf
  have hval := h.val
  rcases h.rd with ⟨rfl, hxs⟩ | ⟨b, off, cap, rfl, hcap, hc⟩
  · have ha : a = 0 := by rw [hxs, val_nil] at hval; omega
    subst ha
    clear hxs hwf hval h
    go_enter Tryz.func102, Tryz.ntmps102
    go_wp2
    refine wp_loop_rounds 1 ?_
    rw [rounds_succ]
    go_wp2
    go_ret
    exact ⟨by rw [tz_zero]; rfl, rfl⟩
  · have HH := Lib.hid (And.intro hwf hval)
    clear h hval hwf
    go_enter Tryz.func102, Tryz.ntmps102
    go_wp2
    go_loop [7] (fun i => ∃ k : Nat, k ≤ xs.length ∧ i = .int .i64 k ∧ Hid (∀ t, t < k → wa xs t = 0)) (fun i => xs.length - (intOf i).toNat)
    case atStart => exact ⟨0, Nat.zero_le _, rfl, fun t ht => absurd ht (Nat.not_lt_zero _)⟩
    case round =>
      obtain ⟨k, hk, rfl, hz⟩ := hrel
      by_cases hlt : k < xs.length
      · have hck := hc k hlt
        obtain ⟨x, hx⟩ := Int.eq_ofNat_of_zero_le (wf_at HH.out.1 k).1
        have hx1 := (wf_at HH.out.1 k).2
        by_cases h0 : x = 0
        · subst h0
          have HZ := Lib.hid hx
          have ht : ((wa xs k) != 0) = false := by rw [hx]; simp
          clear hx hx1
          go_wp2
          go_round
          case rel => exact ⟨k + 1, by omega, by go_num, fun t ht => by
            by_cases e : t = k
            · subst e; exact HZ.out
            · exact hz.out t (by omega)⟩
          case measure => simp [intOf]; omega
        · have hb : x < 2 ^ 64 := by rw [hx, B_eq] at hx1; omega
          have HT := Lib.hid (tz_word HH.out.1 HH.out.2 hlt hz.out hx h0 hb)
          rw [hx] at hck
          have ht : (((x : Int)) != 0) = true := bne_iff_ne.2 (by omega)
          have hcl : Lib.ctz 64 x < 64 := (Lib.lowest_bit 64 x h0 hb).2
          have HC := Lib.hid (tz64 hb h0 hG)
          clear hx hx1 hc h0 hb hG
          go_wp2_with fail
          refine HC.out.mono ?_
          rintro e w' ⟨rfl, rfl⟩
          go_wp2
          go_ret
          exact ⟨by rw [HT.out]; rfl, rfl⟩
      · have hfin : a = 0 := by
          have e : xs = List.replicate xs.length 0 := by
            apply List.ext_getElem (by simp)
            intro n a1 a2
            have := hz.out n (by omega)
            rw [wa_lt (by omega)] at this
            simp [this]
          have h2 := HH.out.2
          rw [e, val_zeros] at h2
          omega
        subst hfin
        go_wp2
        go_ret
        exact ⟨by rw [tz_zero]; rfl, rfl⟩
end Go.Proofs.YtkfpjhjmedodlaaGreatDoor

/- Words that are shifted: plain laws; the relation of wide.Shl's loop. -/
namespace Go.Proofs.YtkfpjhjmedodlaaGreatDoor
open Go.RowKit Wd
namespace Wd
theorem bits_or_u64_nat (a b : Nat) (ha : a < 18446744073709551616) (hb : b < 18446744073709551616) : bits .or .u64 (a : Int) (b : Int) = ((a ||| b : Nat) : Int) := by
  have hx : a ||| b < 2 ^ 64 := Nat.or_lt_two_pow (by omega) (by omega)
  have h1 : (BitVec.ofInt 64 (a : Int)).toNat = a := by
    rw [BitVec.ofInt_natCast, BitVec.toNat_ofNat]; exact Nat.mod_eq_of_lt (by omega)
  have h2 : (BitVec.ofInt 64 (b : Int)).toNat = b := by
    rw [BitVec.ofInt_natCast, BitVec.toNat_ofNat]; exact Nat.mod_eq_of_lt (by omega)
  show IntKind.u64.wrap ((BitVec.ofInt 64 (a : Int) ||| BitVec.ofInt 64 (b : Int)).toNat : Int) = _
  rw [BitVec.toNat_or, h1, h2, IntKind.wrap_u64]
  omega
/-- The low and the high word of a word that is shifted to the left. -/
def shlo (x : Int) (r : Nat) : Int := x * 2 ^ r % B
def shhi (x : Int) (r : Nat) : Int := x / 2 ^ (64 - r)
theorem two_pow_pos' (r : Nat) : (0 : Int) < 2 ^ r := Int.pow_pos (by decide)
theorem B_split {r : Nat} (h : r ≤ 64) : B = 2 ^ r * 2 ^ (64 - r) := by
  rw [← Int.pow_add, show r + (64 - r) = 64 by omega]
  rfl
theorem sh_law {x : Int} (hx : 0 ≤ x ∧ x < B) {r : Nat} (hr : r < 64) :
    x * 2 ^ r = shlo x r + B * shhi x r ∧ (0 ≤ shlo x r ∧ shlo x r < B) ∧ 0 ≤ shhi x r ∧ shhi x r < 2 ^ r ∧ (∃ m, 0 ≤ m ∧ shlo x r = 2 ^ r * m) := by
  have hp := two_pow_pos' r
  have hp2 := two_pow_pos' (64 - r)
  have hB := B_split (Nat.le_of_lt hr)
  have hdm := Int.mul_ediv_add_emod x (2 ^ (64 - r))
  have hm0 := Int.emod_nonneg x (Int.ne_of_gt hp2)
  have hm1 := Int.emod_lt_of_pos x hp2
  have key : shlo x r = 2 ^ r * (x % 2 ^ (64 - r)) := by
    unfold shlo
    have e : x * 2 ^ r = 2 ^ r * (x % 2 ^ (64 - r)) + B * (x / 2 ^ (64 - r)) := by
      rw [hB]
      generalize x % 2 ^ (64 - r) = m at *
      generalize x / 2 ^ (64 - r) = d at *
      grind
    rw [e, Int.add_mul_emod_self_left, Int.emod_eq_of_lt (Int.mul_nonneg (Int.le_of_lt hp) hm0)]
    rw [hB]
    exact Int.mul_lt_mul_of_pos_left hm1 hp
  refine ⟨?_, ⟨?_, ?_⟩, ?_, ?_, _, hm0, key⟩
  · rw [key]
    unfold shhi
    rw [hB]
    generalize x % 2 ^ (64 - r) = m at *
    generalize x / 2 ^ (64 - r) = d at *
    grind
  · rw [key]; exact Int.mul_nonneg (Int.le_of_lt hp) hm0
  · rw [key, hB]; exact Int.mul_lt_mul_of_pos_left hm1 hp
  · exact Int.ediv_nonneg hx.1 (Int.le_of_lt hp2)
  · unfold shhi
    rw [Int.ediv_lt_iff_lt_mul hp2, ← hB]
    exact hx.2
theorem or_law {a b : Int} {r : Nat} (hr : r < 64) (ha : 0 ≤ a) (ha' : a < 2 ^ r) (hb : ∃ m, 0 ≤ m ∧ b = 2 ^ r * m) (hb' : b < B) : bits .or .u64 a b = a + b ∧ a + b < B := by
  obtain ⟨m, hm, rfl⟩ := hb
  obtain ⟨a, rfl⟩ := Int.eq_ofNat_of_zero_le ha
  obtain ⟨m, rfl⟩ := Int.eq_ofNat_of_zero_le hm
  have e : (2 ^ r * (m : Int)) = ((2 ^ r * m : Nat) : Int) := by simp
  have ha2 : a < 2 ^ r := by
    have : ((2 : Int) ^ r) = ((2 ^ r : Nat) : Int) := by simp
    omega
  rw [e] at hb' ⊢
  have hlt : 2 ^ r * m + a < 2 ^ 64 := by
    rw [B_eq] at hb'
    have h2 : (2 : Nat) ^ 64 = 2 ^ r * 2 ^ (64 - r) := by rw [← Nat.pow_add]; congr 1; omega
    have h3 : 2 ^ r * m < 2 ^ r * 2 ^ (64 - r) := by rw [← h2]; omega
    have h4 : m < 2 ^ (64 - r) := Nat.lt_of_mul_lt_mul_left h3
    have h5 : 2 ^ r * (m + 1) ≤ 2 ^ r * 2 ^ (64 - r) := Nat.mul_le_mul_left _ h4
    rw [Nat.mul_add] at h5
    omega
  have h1 := Nat.two_pow_add_eq_or_of_lt ha2 m
  refine ⟨?_, by rw [B_eq]; omega⟩
  rw [bits_or_u64_nat _ _ (by omega) (by omega), Nat.or_comm, ← h1]
  omega
end Wd

structure ShlRel (xs O : List Int) (q r k : Nat) : Prop where
  len : O.length = xs.length + q + 1
  wf : Wf O
  zero : ∀ t, q + k < t → wa O t = 0
  top : wa O (k + q) < 2 ^ r
  val : val O = pw q * 2 ^ r * val (xs.take k)
theorem ShlRel.start (xs : List Int) (q r : Nat) : ShlRel xs (List.replicate (xs.length + q + 1) 0) q r 0 := by
  have hz : ∀ t, wa (List.replicate (xs.length + q + 1) 0) t = 0 := fun t => by
    unfold wa
    rw [List.getElem?_replicate]
    split <;> rfl
  exact ⟨by simp, wf_zeros _, fun t _ => hz t, by rw [hz]; exact two_pow_pos' r, by simp [val_zeros, val_nil]⟩
theorem ShlRel.step {xs O : List Int} {q r k : Nat} (h : ShlRel xs O q r k) (hx : Wf xs) (hr : r < 64) (hk : k < xs.length) :
    ShlRel xs ((O.set (k + q) (bits .or .u64 (wa O (k + q)) (shlo (wa xs k) r))).set (k + q + 1) (shhi (wa xs k) r)) q r (k + 1) := by
  obtain ⟨e, a, b0, b1, m⟩ := sh_law (wf_at hx k) hr
  obtain ⟨o1, o2⟩ := or_law hr (wf_at h.wf (k + q)).1 h.top m a.2
  have hl : k + q < O.length := by rw [h.len]; omega
  have hp : (2 : Int) ^ r < B := by
    rw [show B = 2 ^ 64 from rfl]
    exact_mod_cast Nat.pow_lt_pow_right (by decide) hr
  have hl2 : k + q + 1 < (O.set (k + q) (bits .or .u64 (wa O (k + q)) (shlo (wa xs k) r))).length := by rw [List.length_set, h.len]; omega
  have h0 := (wf_at h.wf (k + q)).1
  rw [o1] at hl2 ⊢
  refine ⟨by simp [h.len], wf_set (wf_set h.wf (by omega) o2) b0 (by omega), fun t ht => ?_, ?_, ?_⟩
  · rw [wa_set _ _ hl2, if_neg (by omega), wa_set _ _ hl, if_neg (by omega)]
    exact h.zero t (by omega)
  · rw [show k + 1 + q = k + q + 1 by omega, wa_set _ _ hl2, if_pos rfl]
    exact b1
  · rw [val_set _ hl2, val_set _ hl, wa_set _ _ hl, if_neg (by omega), h.zero (k + q + 1) (by omega), val_take_succ', h.val, pw_succ, pw_add]
    generalize (2 : Int) ^ r = p at *
    grind
/-- The same where nothing is shifted within the words. -/
theorem ShlRel.step0 {xs O : List Int} {q k : Nat} (h : ShlRel xs O q 0 k) (hx : Wf xs) (hk : k < xs.length) :
    ShlRel xs (O.set (k + q) (bits .or .u64 (wa O (k + q)) (shlo (wa xs k) 0))) q 0 (k + 1) := by
  have h1 := h.step hx (by decide) hk
  have e : shhi (wa xs k) 0 = 0 := by
    obtain ⟨-, -, b0, b1, -⟩ := sh_law (wf_at hx k) (show 0 < 64 by decide)
    simp at b1
    omega
  have hl : k + q < O.length := by rw [h.len]; omega
  have hl2 : k + q + 1 < (O.set (k + q) (bits .or .u64 (wa O (k + q)) (shlo (wa xs k) 0))).length := by rw [List.length_set, h.len]; omega
  rw [e] at h1
  rwa [show (O.set (k + q) (bits .or .u64 (wa O (k + q)) (shlo (wa xs k) 0))).set (k + q + 1) 0 = O.set (k + q) (bits .or .u64 (wa O (k + q)) (shlo (wa xs k) 0)) from by
    apply eq_of_at (by simp)
    intro t
    rw [wa_set _ _ hl2]
    split
    · rename_i et
      rw [et, wa_set _ _ hl, if_neg (by omega), h.zero (k + q + 1) (by omega)]
    · rfl] at h1
theorem ShlRel.fin {xs O : List Int} {q r a s : Nat} (h : ShlRel xs O q r xs.length) (hv : Wd.val xs = a) (hs : s = 64 * q + r) : Wd.val O = ((a * 2 ^ s : Nat) : Int) := by
  have := h.val
  rw [List.take_of_length_le (Nat.le_refl _), hv, pw_two] at this
  rw [this, hs, Nat.pow_add]
  simp
  grind
end Go.Proofs.YtkfpjhjmedodlaaGreatDoor

/- wide.Shl: the walk. -/
set_option maxRecDepth 100000
namespace Go.Proofs.YtkfpjhjmedodlaaGreatDoor
open Go.RowKit Wd

set_option maxHeartbeats 2000000 in
theorem shl_any {w : World} {x : Value} {xs : List Int} {a : Nat} (hx : Nm w x xs a) (s : Nat) (hs : xs.length + s ≤ 90000000) :
    Calls Tryz.prog 100 #[x, .int .i64 s] w (Res (a * 2 ^ s) w) := by
  have hvx := view_any hx
  have hlx := val_len_le hx.wf hx.val
  obtain ⟨q, hq⟩ : ∃ q, q = s / 64 := ⟨_, rfl⟩
  obtain ⟨r, hr⟩ : ∃ r, r = s % 64 := ⟨_, rfl⟩
  have e1 : (s : Int) / 64 = q := by omega
  have e2 : (s : Int) % 64 = r := by omega
  have r0 : r < 64 := by omega
  have q0 : q ≤ 90000000 := by omega
  have HS := Lib.hid (show s = 64 * q + r by omega)
  clear hq hr
  go_enter Tryz.func100, Tryz.ntmps100
  go_wp2_with fail
  refine hvx.mono ?_
  rintro e w' ⟨rfl, x', rfl, hrx, hsx⟩
  clear hvx hx
  by_cases ha : a = 0
  · subst ha
    have hfin : Res (0 * 2 ^ s) w (.returned (.slice none 0 0)) w := ⟨_, rfl, by rw [Nat.zero_mul, wd_zero]; exact Own.nil _ _, Below.refl _ _⟩
    rw [wd_zero] at hsx hrx
    rcases hsx with ⟨-, rfl, rfl⟩ | ⟨bx, ox, mx, cx, rfl, rfl, -⟩
    all_goals
      clear hrx
      go_wp2
      go_ret
      exact hfin
  rcases hsx with ⟨h, -, -⟩ | ⟨bx, ox, mx, cx, rfl, rfl, -⟩
  · exact absurd h ha
  have hap := len_wd_pos ha
  have hX := hrx.at
  have HV : Hid (Wf (wd a) ∧ val (wd a) = a) := ⟨wf_wd a, val_wd a⟩
  have HF : Hid (∀ v w', Own w.heap.size w' v (wd (a * 2 ^ s)) → Below w.heap.size w w' → Res (a * 2 ^ s) w (.returned v) w') := fun v w' h1 h2 => ⟨v, rfl, h1, h2⟩
  clear hrx
  generalize wd a = X at *
  have hx0 : ((X.length : Int) == 0) = false := beq_eq_false_iff_ne.2 (by omega)
  clear ha
  go_wp2_with (at_make; refine wl_make rfl (.tmp 18) (.tmp 18) 24 rfl Tryz.underlying24 (B := w.heap.size) rfl rfl (X.length + q + 1) (by simp) (by omega) (Nat.le_refl _) ?_; intro g w1 hg ho hb)
  have hgB : w.heap.size ≤ g := by have := hg.out; omega
  have HO := Lib.hid (And.intro ho hb)
  clear ho hg hb
  go_loopw [22] (fun i wr => ∃ (k : Nat) (O : List Int), k ≤ X.length ∧ i = .int .i64 k ∧ Own w.heap.size wr (.slice (some ⟨g, 0, none⟩) (X.length + q + 1) (X.length + q + 1)) O ∧ ShlRel X O q r k ∧ Below w.heap.size w wr) (fun i _ => X.length - (intOf i).toNat)
  case atStart => exact ⟨0, _, by omega, rfl, HO.out.1, ShlRel.start _ _ _, HO.out.2⟩
  case round =>
    obtain ⟨k, O, hk, rfl, ho, hr, hb⟩ := hrel
    by_cases hkx : k < X.length
    · have hxk := (hb.cell (lt_of_cell (hX k hkx))).trans (hX k hkx)
      have hgk := ho.cell hr.len (k + q) (by omega)
      have hgf := ho.frozen hr.len (k + q)
      have hgk1 := ho.cell hr.len (k + q + 1) (by omega)
      have hgf1 := ho.frozen hr.len (k + q + 1)
      have HH := Lib.hid (And.intro ho (And.intro hr hb))
      have HSH := Lib.hid (show IntKind.u64.wrap (wa X k * 2 ^ r) = shlo (wa X k) r by rw [IntKind.wrap_u64]; rfl)
      clear ho hr hb
      go_wp2
      go_region
      by_cases hr0 : 0 < r
      · go_wp2
        go_roundw
        case rel =>
          obtain ⟨ho, hr, hb⟩ := HH.out
          have h1 := ho.store hr.len (k + q) (bits .or .u64 (wa O (k + q)) (shlo (wa X k) r))
          have h2 := h1.1.store (by rw [List.length_set]; exact hr.len) (k + q + 1) (shhi (wa X k) r)
          rw [HSH.out]
          refine ⟨k + 1, _, by omega, by go_num, ?_, hr.step HV.out.1 r0 hkx, ?_⟩
          · exact h2.1
          · exact ((hb.setCell hgB _).setCell hgB _).drew
        case measure => simp [intOf]; omega
      · obtain rfl : r = 0 := by omega
        have HS0 := Lib.hid (show IntKind.u64.wrap (wa X k) = shlo (wa X k) 0 by rw [IntKind.wrap_u64]; unfold shlo; simp; rfl)
        go_wp2
        go_roundw
        case rel =>
          obtain ⟨ho, hr, hb⟩ := HH.out
          have h1 := ho.store hr.len (k + q) (bits .or .u64 (wa O (k + q)) (shlo (wa X k) 0))
          rw [HS0.out]
          refine ⟨k + 1, _, by omega, by go_num, ?_, hr.step0 HV.out.1 hkx, ?_⟩
          · exact h1.1
          · exact (hb.setCell hgB _).drew
        case measure => simp [intOf]; omega
    · obtain rfl : k = X.length := by omega
      have h4 : Nm wr (.slice (some ⟨g, 0, none⟩) (X.length + q + 1) (X.length + q + 1)) O (a * 2 ^ s) :=
        ⟨ho.rd, hr.wf, hr.fin HV.out.2 HS.out, by rw [hr.len]; omega⟩
      have HB := Lib.hid hb
      clear ho hr hb
      go_wp2_with fail
      refine ((trim_any h4).mono ?_)
      rintro e w' hres
      obtain ⟨v, rfl, hown, hbw⟩ := hres
      have hfin := HF.out v w' (hown.mono HB.out.size) (below_trans HB.out hbw)
      clear hown hbw h4
      go_wp2
      go_ret
      exact hfin
end Go.Proofs.YtkfpjhjmedodlaaGreatDoor

/- wide.Sub: the walk. -/
set_option maxRecDepth 100000
namespace Go.Proofs.YtkfpjhjmedodlaaGreatDoor
open Go.RowKit Wd
structure SubRel (xs ys zs : List Int) (k : Nat) (c : Int) : Prop where
  len : zs.length = k
  wf : Wf zs
  c0 : 0 ≤ c
  c1 : c ≤ 1
  val : val zs - pw k * c = val (xs.take k) - val (ys.take k)
theorem SubRel.zero (xs ys : List Int) : SubRel xs ys [] 0 0 := ⟨rfl, wf_nil, by decide, by decide, by simp [val_nil]⟩
theorem SubRel.step {xs ys zs : List Int} {k : Nat} {c : Int} (h : SubRel xs ys zs k c) (hx : Wf xs) (hy : Wf ys) :
    SubRel xs ys (zs ++ [slo (wa xs k) (wa ys k) c]) (k + 1) (shi (wa xs k) (wa ys k) c) := by
  obtain ⟨h1, h2, h3, h4⟩ := sub_law (wf_at hx k) (wf_at hy k) ⟨h.c0, h.c1⟩
  refine ⟨by simp [h.len], wf_append.2 ⟨h.wf, wf_one h2.1 h2.2⟩, h3, h4, ?_⟩
  rw [val_snoc, h.len, val_take_succ', val_take_succ', pw_succ]
  have := h.val
  grind
theorem SubRel.fin {xs ys zs : List Int} {c : Int} {a b : Nat} (h : SubRel xs ys zs xs.length c) (hle : ys.length ≤ xs.length) (ha : Wd.val xs = a) (hb : Wd.val ys = b) (hab : b ≤ a) : Wd.val zs = ((a - b : Nat) : Int) := by
  have hv := h.val
  rw [List.take_of_length_le (Nat.le_refl _), List.take_of_length_le hle, ha, hb] at hv
  have h1 := val_lt h.wf
  rw [h.len] at h1
  have h0 := h.c0
  have hc := h.c1
  have hp := pw_pos xs.length
  have : c = 0 := by
    rcases Int.lt_or_le 0 c with h2 | h2
    · have : c = 1 := by omega
      subst this
      omega
    · omega
  subst this
  omega

set_option maxHeartbeats 2000000 in
theorem sub_any {w : World} {x y : Value} {xs ys : List Int} {a b : Nat} (hx : Nm w x xs a) (hy : Nm w y ys b) (hab : b ≤ a) :
    Calls Tryz.prog 180 #[x, y] w (Res (a - b) w) := by
  have hvx := view_any hx
  have hvy := view_any hy
  have hlx := val_len_le hx.wf hx.val
  have hlx2 := hx.len
  have hle := wd_len_mono hab
  go_enter Tryz.func180, Tryz.ntmps180
  go_wp2_with fail
  refine hvx.mono ?_
  rintro e w' ⟨rfl, x', rfl, hrx, hsx⟩
  go_wp2_with fail
  refine hvy.mono ?_
  rintro e w' ⟨rfl, y', rfl, hry, hsy⟩
  clear hvx hvy hx hy
  have HF : Hid (∀ v w', Own w.heap.size w' v (wd (a - b)) → Below w.heap.size w w' → Res (a - b) w (.returned v) w') := fun v w' h1 h2 => ⟨v, rfl, h1, h2⟩
  rcases hsx with ⟨rfl, rfl, rfl⟩ | ⟨bx, ox, mx, cx, rfl, rfl, -⟩
  · obtain rfl : b = 0 := by omega
    rw [wd_zero] at *
    clear hle
    simp only [Nat.sub_zero] at HF
    have h0 : ∀ w1 g, Own w.heap.size w1 (.slice (some ⟨g, 0, none⟩) 0 0) (List.replicate 0 0) → Nm w1 (.slice (some ⟨g, 0, none⟩) 0 0) [] 0 := fun w1 g ho => ⟨ho.rd, wf_nil, rfl, by simp⟩
    rcases hsy with ⟨-, rfl, rfl⟩ | ⟨by_, oy, my, cy, rfl, rfl, -⟩
    all_goals
      clear hrx hry
      go_wp2_with (at_make; refine wl_make rfl _ _ 24 rfl Tryz.underlying24 (B := w.heap.size) rfl rfl 0 rfl (by omega) (Nat.le_refl _) ?_; intro g w1 hg ho hb)
      have h4 := h0 _ _ ho
      have HB := Lib.hid hb
      clear hg ho hb h0
      refine wp_loop_rounds 1 ?_
      rw [rounds_succ]
      go_wp2_with fail
      refine ((trim_any h4).mono ?_)
      rintro e w' hres
      obtain ⟨v, rfl, hown, hbw⟩ := hres
      have hfin := HF.out v w' (by rw [← wd_zero]; exact hown.mono HB.out.size) (below_trans HB.out hbw)
      clear hown hbw h4
      go_wp2
      go_ret
      exact hfin
  have hX := hrx.at
  have HV : Hid (Wf (wd a) ∧ Wf (wd b) ∧ val (wd a) = a ∧ val (wd b) = b) := ⟨wf_wd a, wf_wd b, val_wd a, val_wd b⟩
  have hys0 : b = 0 → (wd b).length ≤ 0 := by rintro rfl; rw [wd_zero]; exact Nat.le_refl _
  clear hrx
  generalize wd a = X at *
  generalize hY0 : wd b = Y at *
  have HAB := Lib.hid hab
  clear hab
  rcases hsy with ⟨hb0, rfl, rfl⟩ | ⟨by_, oy, my, cy, rfl, rfl, -⟩
  all_goals
    try (have hY := hry.at)
    try (have hy0 := hys0 hb0; clear hb0)
    clear hry hys0 hY0
    go_wp2_with (at_make; refine wl_make rfl _ _ 24 rfl Tryz.underlying24 (B := w.heap.size) rfl rfl X.length rfl (by omega) (Nat.le_refl _) ?_; intro g w1 hg ho hb)
    have hgB : w.heap.size ≤ g := by have := hg.out; omega
    have HO := Lib.hid (And.intro ho hb)
    clear ho hg hb
    go_loopw [18, 6] (fun i c wr => ∃ (k : Nat) (cc : Int) (zs : List Int), k ≤ X.length ∧ i = .int .i64 k ∧ c = .int .u64 cc ∧ Own w.heap.size wr (.slice (some ⟨g, 0, none⟩) X.length X.length) (zs ++ List.replicate (X.length - k) 0) ∧ SubRel X Y zs k cc ∧ Below w.heap.size w wr) (fun i _ _ => X.length - (intOf i).toNat)
    case atStart => exact ⟨0, 0, [], by omega, rfl, rfl, HO.out.1, SubRel.zero _ _, HO.out.2⟩
    case round =>
      obtain ⟨k, cc, zs, hk, rfl, rfl, ho, hr, hb'⟩ := hrel
      by_cases hkx : k < X.length
      · have hxk := (hb'.cell (lt_of_cell (hX k hkx))).trans (hX k hkx)
        have hlen : (zs ++ List.replicate (X.length - k) 0).length = X.length := by simp [hr.len]; omega
        have hgk := ho.cell hlen k (by omega)
        have hgf := ho.frozen hlen k
        have h0 := wf_at HV.out.1 k
        have hc0 := And.intro hr.c0 hr.c1
        by_cases hky : k < Y.length
        · try (exfalso; omega)
          all_goals
            have hyk := (hb'.cell (lt_of_cell (hY k hky))).trans (hY k hky)
            have h1 := wf_at HV.out.2.1 k
            have HH := Lib.hid (And.intro ho (And.intro hr (And.intro hb' hlen)))
            (try clear hY); clear ho hr hb' hlen hX
            go_wp2_with (rw [sub64 h0 h1 hc0])
            go_roundw
            case rel =>
              obtain ⟨ho, hr, hb', hlen⟩ := HH.out
              have e : X.length - k = (X.length - (k + 1)) + 1 := by omega
              have h2 := ho.store hlen k (slo (wa X k) (wa Y k) cc)
              refine ⟨k + 1, _, _, by omega, by go_num, rfl, ?_, hr.step HV.out.1 HV.out.2.1, hb'.setCell hgB _⟩
              rw [← set_mid _ _ _ _ hr.len, ← e]
              exact h2.1
            case measure => simp [intOf]; omega
        · have hy0 : wa Y k = 0 := wa_ge (by omega)
          have HH := Lib.hid (And.intro ho (And.intro hr (And.intro hb' (And.intro hlen hy0))))
          (try clear hY); clear ho hr hb' hlen hX hy0
          go_wp2_with (rw [sub64 h0 ⟨Int.le_refl 0, B_pos⟩ hc0])
          go_roundw
          case rel =>
            obtain ⟨ho, hr, hb', hlen, hy0⟩ := HH.out
            have e : X.length - k = (X.length - (k + 1)) + 1 := by omega
            have h2 := ho.store hlen k (slo (wa X k) 0 cc)
            have h3 := hr.step HV.out.1 HV.out.2.1
            rw [hy0] at h3
            refine ⟨k + 1, _, _, by omega, by go_num, rfl, ?_, h3, hb'.setCell hgB _⟩
            rw [← set_mid _ _ _ _ hr.len, ← e]
            exact h2.1
          case measure => simp [intOf]; omega
      · obtain rfl : k = X.length := by omega
        rw [Nat.sub_self, List.replicate_zero, List.append_nil] at ho
        have h4 : Nm wr (.slice (some ⟨g, 0, none⟩) X.length X.length) zs (a - b) :=
          ⟨ho.rd, hr.wf, hr.fin (by omega) HV.out.2.2.1 HV.out.2.2.2 HAB.out, by rw [hr.len]; omega⟩
        have HB := Lib.hid hb'
        clear ho hr hb' hX
        (try clear hY)
        go_wp2_with fail
        refine ((trim_any h4).mono ?_)
        rintro e w' hres
        obtain ⟨v, rfl, hown, hbw⟩ := hres
        have hfin := HF.out v w' (hown.mono HB.out.size) (below_trans HB.out hbw)
        clear hown hbw h4
        go_wp2
        go_ret
        exact hfin
end Go.Proofs.YtkfpjhjmedodlaaGreatDoor

/- wide.Shr: the walk. -/
set_option maxRecDepth 100000
namespace Go.Proofs.YtkfpjhjmedodlaaGreatDoor
open Go.RowKit Wd
structure ShrRel (D zs : List Int) (r k : Nat) : Prop where
  len : zs.length = k
  wf : Wf zs
  val : val zs * 2 ^ r + wa D 0 % 2 ^ r = val (D.take k) + pw k * (wa D k % 2 ^ r)
theorem ShrRel.zero (D : List Int) (r : Nat) : ShrRel D [] r 0 := ⟨rfl, wf_nil, by simp [val_nil, pw_zero]⟩
def shw (x y : Int) (r : Nat) : Int := bits .or .u64 (x / 2 ^ r) (shlo y (64 - r))
theorem shw_law {x y : Int} {r : Nat} (hx : 0 ≤ x ∧ x < B) (hy : 0 ≤ y ∧ y < B) (h0 : 0 < r) (hr : r < 64) :
    shw x y r * 2 ^ r = x - x % 2 ^ r + B * (y % 2 ^ r) ∧ 0 ≤ shw x y r ∧ shw x y r < B := by
  have hp := two_pow_pos' r
  have hp2 := two_pow_pos' (64 - r)
  have hB := B_split (Nat.le_of_lt hr)
  obtain ⟨e, a, -, -, m⟩ := sh_law hy (show 64 - r < 64 by omega)
  have h1 : 0 ≤ x / 2 ^ r := Int.ediv_nonneg hx.1 (Int.le_of_lt hp)
  have h2 : x / 2 ^ r < 2 ^ (64 - r) := by
    rw [Int.ediv_lt_iff_lt_mul hp, Int.mul_comm, ← hB]
    exact hx.2
  obtain ⟨o1, o2⟩ := or_law (show 64 - r < 64 by omega) h1 h2 m a.2
  have hdm := Int.mul_ediv_add_emod x (2 ^ r)
  have key : shlo y (64 - r) * 2 ^ r = B * (y % 2 ^ r) := by
    have hdm2 := Int.mul_ediv_add_emod y (2 ^ r)
    have hhi : shhi y (64 - r) = y / 2 ^ r := by unfold shhi; rw [show 64 - (64 - r) = r by omega]
    rw [hhi] at e
    have : shlo y (64 - r) = 2 ^ (64 - r) * (y % 2 ^ r) := by
      rw [hB] at e
      generalize (2 : Int) ^ r = p at *
      generalize (2 : Int) ^ (64 - r) = p2 at *
      generalize y % p = m at *
      generalize y / p = d at *
      grind
    rw [this, hB]
    grind
  unfold shw
  rw [o1]
  refine ⟨?_, by omega, o2⟩
  rw [Int.add_mul, key]
  have : x / 2 ^ r * 2 ^ r = x - x % 2 ^ r := by rw [Int.mul_comm]; omega
  rw [this]
theorem ShrRel.step {D zs : List Int} {r k : Nat} (h : ShrRel D zs r k) (hD : Wf D) (h0 : 0 < r) (hr : r < 64) : ShrRel D (zs ++ [shw (wa D k) (wa D (k + 1)) r]) r (k + 1) := by
  obtain ⟨e, a, b⟩ := shw_law (wf_at hD k) (wf_at hD (k + 1)) h0 hr
  refine ⟨by simp [h.len], wf_append.2 ⟨h.wf, wf_one a b⟩, ?_⟩
  have hv := h.val
  rw [val_snoc, h.len, val_take_succ', pw_succ]
  generalize (2 : Int) ^ r = p at *
  generalize wa D k % p = m at *
  generalize wa D (k + 1) % p = m2 at *
  grind
theorem ShrRel.last {D zs : List Int} {r k : Nat} (h : ShrRel D zs r k) (hD : Wf D) (hk : D.length ≤ k + 1) : ShrRel D (zs ++ [wa D k / 2 ^ r]) r (k + 1) := by
  have hp := two_pow_pos' r
  have hx := wf_at hD k
  have h1 : 0 ≤ wa D k / 2 ^ r := Int.ediv_nonneg hx.1 (Int.le_of_lt hp)
  have h2 : wa D k / 2 ^ r ≤ wa D k := Int.ediv_le_self _ hx.1
  refine ⟨by simp [h.len], wf_append.2 ⟨h.wf, wf_one h1 (by omega)⟩, ?_⟩
  have hv := h.val
  have hdm := Int.mul_ediv_add_emod (wa D k) (2 ^ r)
  have hz : wa D (k + 1) = 0 := wa_ge hk
  rw [val_snoc, h.len, val_take_succ', pw_succ, hz]
  generalize (2 : Int) ^ r = p at *
  generalize wa D k % p = m at *
  generalize wa D k / p = d at *
  simp
  grind
theorem ShrRel.step0 {D zs : List Int} {k : Nat} (h : ShrRel D zs 0 k) (hD : Wf D) : ShrRel D (zs ++ [wa D k]) 0 (k + 1) := by
  refine ⟨by simp [h.len], wf_append.2 ⟨h.wf, wf_one (wf_at hD k).1 (wf_at hD k).2⟩, ?_⟩
  have hv := h.val
  rw [val_snoc, h.len, val_take_succ', pw_succ]
  simp [Int.emod_one] at hv ⊢
  grind
theorem ShrRel.fin {X zs : List Int} {q r a s : Nat} (hX : Wf X) (hq : q ≤ X.length) (h : ShrRel (X.drop q) zs r (X.length - q)) (hv : Wd.val X = a) (hs : s = 64 * q + r) : Wd.val zs = ((a / 2 ^ s : Nat) : Int) := by
  have h1 := h.val
  rw [List.take_of_length_le (by simp), wa_ge (i := X.length - q) (by simp)] at h1
  have hsp := val_split X q hq
  have hn := val_nonneg (wf_drop hX q)
  have hl := val_lt (wf_take hX q)
  have hl0 := val_nonneg (wf_take hX q)
  rw [List.length_take, Nat.min_eq_left hq] at hl
  have hp := two_pow_pos' r
  have hm0 := Int.emod_nonneg (wa (X.drop q) 0) (Int.ne_of_gt hp)
  have hm1 := Int.emod_lt_of_pos (wa (X.drop q) 0) hp
  have hz0 := val_nonneg h.wf
  obtain ⟨z, hz⟩ := Int.eq_ofNat_of_zero_le hz0
  rw [hz] at h1 ⊢
  obtain ⟨d, hd⟩ := Int.eq_ofNat_of_zero_le hn
  rw [hd] at h1 hsp
  obtain ⟨m, hm⟩ := Int.eq_ofNat_of_zero_le hm0
  rw [hm] at h1 hm1
  obtain ⟨l, hl2⟩ := Int.eq_ofNat_of_zero_le hl0
  rw [hl2, hv, pw_two] at hsp
  rw [hl2, pw_two] at hl
  have e1 : z * 2 ^ r + m = d := by
    have : ((z * 2 ^ r + m : Nat) : Int) = d := by simp at h1 ⊢; exact h1
    omega
  have e2 : a = l + 2 ^ (64 * q) * d := by
    have : (a : Int) = ((l + 2 ^ (64 * q) * d : Nat) : Int) := by rw [hsp]; simp
    omega
  have e3 : m < 2 ^ r := by
    have : (m : Int) < ((2 ^ r : Nat) : Int) := by simpa using hm1
    omega
  have e4 : l < 2 ^ (64 * q) := by omega
  have : a / 2 ^ s = z := by
    rw [hs, Nat.pow_add, ← Nat.div_div_eq_div_mul, e2, Nat.add_mul_div_left _ _ (Nat.two_pow_pos _), Nat.div_eq_of_lt e4, Nat.zero_add, ← e1, Nat.mul_comm z, Nat.mul_add_div (Nat.two_pow_pos _), Nat.div_eq_of_lt e3, Nat.add_zero]
  rw [this]
theorem wa_drop (xs : List Int) (q i : Nat) : wa (xs.drop q) i = wa xs (q + i) := by unfold wa; rw [List.getElem?_drop]

set_option maxHeartbeats 2000000 in
theorem shr_any {w : World} {x : Value} {xs : List Int} {a : Nat} (hx : Nm w x xs a) (s : Nat) (hs : s ≤ 9000000000) :
    Calls Tryz.prog 103 #[x, .int .i64 s] w (Res (a / 2 ^ s) w) := by
  have hvx := view_any hx
  have hlx := val_len_le hx.wf hx.val
  have hlx2 := hx.len
  obtain ⟨q, hq⟩ : ∃ q, q = s / 64 := ⟨_, rfl⟩
  obtain ⟨r, hr⟩ : ∃ r, r = s % 64 := ⟨_, rfl⟩
  have e1 : (s : Int) / 64 = q := by omega
  have e2 : (s : Int) % 64 = r := by omega
  have r0 : r < 64 := by omega
  have q0 : q ≤ 900000000 := by omega
  have HS := Lib.hid (show s = 64 * q + r by omega)
  clear hq hr
  have HF : Hid (∀ v w', Own w.heap.size w' v (wd (a / 2 ^ s)) → Below w.heap.size w w' → Res (a / 2 ^ s) w (.returned v) w') := fun v w' h1 h2 => ⟨v, rfl, h1, h2⟩
  go_enter Tryz.func103, Tryz.ntmps103
  go_wp2_with fail
  refine hvx.mono ?_
  rintro e w' ⟨rfl, x', rfl, hrx, hsx⟩
  clear hvx hx
  by_cases hql : (wd a).length ≤ q
  · have hz : a / 2 ^ s = 0 := by
      apply Nat.div_eq_of_lt
      have := lt_pw_len a
      have h2 := pw_mono hql
      rw [pw_two q] at h2
      have h3 : 2 ^ (64 * q) ≤ 2 ^ s := Nat.pow_le_pow_right (by decide) (by have := HS.out; omega)
      omega
    have hfin := Lib.hid (HF.out (.slice none 0 0) w (by rw [hz, wd_zero]; exact Own.nil _ _) (Below.refl _ _))
    clear hz hrx
    rcases hsx with ⟨rfl, rfl, rfl⟩ | ⟨bx, ox, mx, cx, rfl, rfl, -⟩
    all_goals
      go_wp2
      go_ret
      exact hfin.out
  rcases hsx with ⟨rfl, -, -⟩ | ⟨bx, ox, mx, cx, rfl, rfl, -⟩
  · exact absurd (by rw [wd_zero]; exact Nat.zero_le _) hql
  have hX := hrx.at
  have HV : Hid (Wf (wd a) ∧ val (wd a) = a) := ⟨wf_wd a, val_wd a⟩
  clear hrx
  generalize wd a = X at *
  have hqc : ¬ X.length = q := by omega
  have hqc2 : q < X.length := by omega
  obtain ⟨n, hn⟩ : ∃ n, X.length = q + n := ⟨X.length - q, by omega⟩
  have hn0 : 0 < n := by omega
  have hD : ∀ k, k < n → w.cell? ⟨bx, ox + q + k, none⟩ = some (.int .u64 (wa (X.drop q) k)) := fun k hk => by
    rw [wa_drop, Nat.add_assoc]
    exact hX (q + k) (by omega)
  have HD : Hid ((X.drop q).length = n ∧ Wf (X.drop q)) := ⟨by rw [List.length_drop]; omega, wf_drop HV.out.1 q⟩
  have HFin : Hid (∀ zs, ShrRel (X.drop q) zs r n → val zs = ((a / 2 ^ s : Nat) : Int)) := fun zs h => ShrRel.fin (q := q) HV.out.1 (by omega) (by rw [hn, Nat.add_sub_cancel_left]; exact h) HV.out.2 HS.out
  have HN := Lib.hid hn
  have en : X.length - q = n := by omega
  clear hn hX
  go_wp2_with (at_make; refine wl_make rfl _ _ 24 rfl Tryz.underlying24 (B := w.heap.size) rfl rfl n (by first | rfl | omega) (by omega) (Nat.le_refl _) ?_; intro g w1 hg ho hb)
  have hgB : w.heap.size ≤ g := by have := hg.out; omega
  have HO := Lib.hid (And.intro ho hb)
  clear ho hg hb
  generalize X.drop q = D at *
  go_loopw [23] (fun i wr => ∃ (k : Nat) (zs : List Int), k ≤ n ∧ i = .int .i64 k ∧ Own w.heap.size wr (.slice (some ⟨g, 0, none⟩) n n) (zs ++ List.replicate (n - k) 0) ∧ ShrRel D zs r k ∧ Below w.heap.size w wr) (fun i _ => n - (intOf i).toNat)
  case atStart => exact ⟨0, [], by omega, rfl, HO.out.1, ShrRel.zero _ _, HO.out.2⟩
  case round =>
    obtain ⟨k, zs, hk, rfl, ho, hr, hb'⟩ := hrel
    by_cases hkx : k < n
    · have hxk := (hb'.cell (lt_of_cell (hD k hkx))).trans (hD k hkx)
      have hlen : (zs ++ List.replicate (n - k) 0).length = n := by simp [hr.len]; omega
      have hgk := ho.cell hlen k (by omega)
      have hgf := ho.frozen hlen k
      have HSet := Lib.hid (fun v => set_mid zs k (n - (k + 1)) v hr.len)
      have HH := Lib.hid (And.intro ho (And.intro hr (And.intro hb' hlen)))
      have en : n - k = n - (k + 1) + 1 := by omega
      have HE := Lib.hid en
      clear en
      by_cases hr0 : 0 < r
      · by_cases hk1 : k + 1 < n
        · have hxk1 := (hb'.cell (lt_of_cell (hD (k + 1) hk1))).trans (hD (k + 1) hk1)
          have HW := Lib.hid (show IntKind.u64.wrap (wa D (k + 1) * 2 ^ (64 - r)) = shlo (wa D (k + 1)) (64 - r) by rw [IntKind.wrap_u64]; rfl)
          have e64 : ((64 : Int) - (r : Int)).toNat = 64 - r := by omega
          have c1 : (0 : Int) ≤ 64 - (r : Int) := by omega
          have c2 : (64 : Int) - (r : Int) < 64 := by omega
          clear ho hr hb' hlen hD
          go_wp2
          go_region
          go_wp2
          go_roundw
          case rel =>
            obtain ⟨ho, hr, hb', hlen⟩ := HH.out
            have h1 := (ho.store hlen k (wa D k / 2 ^ r)).1
            have h2 := (h1.store (by rw [List.length_set]; exact hlen) k (shw (wa D k) (wa D (k + 1)) r)).1
            rw [List.set_set, HE.out, HSet.out] at h2
            refine ⟨k + 1, _, by omega, by go_num, ?_, hr.step HD.out.2 hr0 r0, ?_⟩
            · rw [HW.out]
              exact h2
            · exact ((hb'.setCell hgB _).setCell hgB _).drew
          case measure => simp [intOf]; omega
        · clear ho hr hb' hlen hD
          go_wp2
          go_roundw
          case rel =>
            obtain ⟨ho, hr, hb', hlen⟩ := HH.out
            have h1 := (ho.store hlen k (wa D k / 2 ^ r)).1
            rw [HE.out, HSet.out] at h1
            exact ⟨k + 1, _, by omega, by go_num, h1, hr.last HD.out.2 (by rw [HD.out.1]; omega), hb'.setCell hgB _⟩
          case measure => simp [intOf]; omega
      · obtain rfl : r = 0 := by omega
        clear ho hr hb' hlen hD
        go_wp2
        go_roundw
        case rel =>
          obtain ⟨ho, hr, hb', hlen⟩ := HH.out
          have h1 := (ho.store hlen k (wa D k)).1
          rw [HE.out, HSet.out] at h1
          exact ⟨k + 1, _, by omega, by go_num, h1, hr.step0 HD.out.2, hb'.setCell hgB _⟩
        case measure => simp [intOf]; omega
    · obtain rfl : k = n := by omega
      rw [Nat.sub_self, List.replicate_zero, List.append_nil] at ho
      have h4 : Nm wr (.slice (some ⟨g, 0, none⟩) k k) zs (a / 2 ^ s) := ⟨by rw [← hr.len]; rw [← hr.len] at ho; exact ho.rd, hr.wf, HFin.out _ hr, by rw [hr.len]; omega⟩
      have HB := Lib.hid hb'
      clear ho hr hb' hD
      go_wp2_with fail
      refine ((trim_any h4).mono ?_)
      rintro e w' hres
      obtain ⟨v, rfl, hown, hbw⟩ := hres
      have hfin := HF.out v w' (hown.mono HB.out.size) (below_trans HB.out hbw)
      clear hown hbw h4
      go_wp2
      go_ret
      exact hfin
end Go.Proofs.YtkfpjhjmedodlaaGreatDoor
