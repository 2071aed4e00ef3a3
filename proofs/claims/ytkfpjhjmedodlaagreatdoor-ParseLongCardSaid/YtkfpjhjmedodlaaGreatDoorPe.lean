/- What wide.Word, wide.divWord, wide.Bit, wide.Below, wide.guess give, for rows of words that lie whole in memory. -/
import Derived.Test.YtkfpjhjmedodlaaGreatDoorPc
import Derived.Test.YtkfpjhjmedodlaaGreatDoorPd
/- wide.Word, wide.divWord, wide.Bit, wide.Below: the walks. -/
set_option maxRecDepth 100000
namespace Go.Proofs.YtkfpjhjmedodlaaGreatDoor
open Go.RowKit Wd
namespace Wd
theorem Drew.step' {w w' : World} (h : Below w.heap.size w w') (n : Nat) : Below w.heap.size w (w'.drewN n) := below_trans h (Drew.below ⟨n, rfl⟩)
theorem Own.drew {B : Nat} {w : World} {v : Value} {xs : List Int} (h : Own B w v xs) (n : Nat) : Own B (w.drewN n) v xs := h.below (Drew.below ⟨n, rfl⟩)
theorem drop_set_self (O : List Int) (k : Nat) (v : Int) (h : k < O.length) : (O.set k v).drop k = v :: O.drop (k + 1) := by
  rw [List.drop_eq_getElem_cons (by simpa using h)]
  simp [List.drop_set_of_lt]
/-- What a function returns whose results are a number in new memory and a word. -/
def ResW (n : Nat) (x : Int) (w : World) (e : Ending) (w' : World) : Prop := ∃ v, e = .returned (.tuple #[v, .int .u64 x]) ∧ Own w.heap.size w' v (wd n) ∧ Below w.heap.size w w'
/-- What a function returns whose results are two numbers in new memory. -/
def Res2 (n m : Nat) (w : World) (e : Ending) (w' : World) : Prop := ∃ v u, e = .returned (.tuple #[v, u]) ∧ Own w.heap.size w' v (wd n) ∧ Own w.heap.size w' u (wd m) ∧ Below w.heap.size w w'
end Wd

theorem word_any {x : Int} (hx : 0 ≤ x ∧ x < B) (w : World) : Calls Tryz.prog 157 #[.int .u64 x] w (Res x.toNat w) := by
  have h4 : Nm (w.alloc (.cells #[.int .u64 x] 76)) (.slice (some ⟨w.heap.size, 0, none⟩) 1 1) [x] x.toNat := ⟨(own_lit1 (B := w.heap.size) x (Nat.le_refl _)).rd, wf_one hx.1 hx.2, by rw [val_one]; omega, by simp⟩
  go_enter Tryz.func157, Tryz.ntmps157
  go_wp2_with fail
  refine ((trim_any h4).mono ?_)
  rintro e w' hres
  obtain ⟨v, rfl, hown, hbw⟩ := hres
  have hb := (Below.refl w.heap.size w).alloc (Nat.le_refl _) (.cells #[.int .u64 x] 76)
  have hfin : Res x.toNat w (.returned v) w' := ⟨v, rfl, hown.mono hb.size, below_trans hb hbw⟩
  clear hown hbw h4 hb
  go_wp2
  go_ret
  exact hfin

structure DwRel (xs O : List Int) (d : Int) (m : Nat) (r : Int) : Prop where
  len : O.length = xs.length
  wf : Wf O
  r0 : 0 ≤ r
  r1 : r < d
  val : val (xs.drop m) = val (O.drop m) * d + r
theorem DwRel.start (xs : List Int) {d : Int} (hd : 0 < d) : DwRel xs (List.replicate xs.length 0) d xs.length 0 :=
  ⟨by simp, wf_zeros _, Int.le_refl _, hd, by simp [val_nil]⟩
theorem DwRel.step {xs O : List Int} {d r : Int} {k : Nat} (h : DwRel xs O d (k + 1) r) (hx : Wf xs) (hk : k < xs.length) :
    DwRel xs (O.set k (dq r (wa xs k) d)) d k (dr r (wa xs k) d) := by
  obtain ⟨e, a, b0, b1⟩ := div_law h.r0 h.r1 (wf_at hx k)
  have hl : k < O.length := by rw [h.len]; exact hk
  refine ⟨by simp [h.len], wf_set h.wf a.1 a.2, b0, b1, ?_⟩
  rw [drop_set_self _ _ _ hl, val_cons, val_drop _ _ hk, h.val]
  generalize dq r (wa xs k) d = q at *
  generalize dr r (wa xs k) d = s at *
  grind
theorem DwRel.fin {xs O : List Int} {d r : Int} {a : Nat} (h : DwRel xs O d 0 r) (hv : Wd.val xs = a) (hd : 0 < d) : Wd.val O = ((a / d.toNat : Nat) : Int) ∧ r = ((a % d.toNat : Nat) : Int) := by
  have := h.val
  rw [List.drop_zero, List.drop_zero, hv] at this
  have h1 : (a : Int) / d = Wd.val O := by
    rw [this, Int.mul_comm, Int.mul_add_ediv_left _ _ (Int.ne_of_gt hd), Int.ediv_eq_zero_of_lt h.r0 h.r1, Int.add_zero]
  have h2 : (a : Int) % d = r := by
    rw [this, Int.mul_comm, Int.mul_add_emod_self_left, Int.emod_eq_of_lt h.r0 h.r1]
  obtain ⟨n, rfl⟩ := Int.eq_ofNat_of_zero_le (Int.le_of_lt hd)
  rw [← h1, ← h2]
  simp

set_option maxHeartbeats 1000000 in
theorem divWord_any {w : World} {x : Value} {xs : List Int} {a : Nat} (hx : Nm w x xs a) {d : Int} (hd0 : 0 < d) (hd : d < B) :
    Calls Tryz.prog 164 #[x, .int .u64 d] w (ResW (a / d.toNat) ((a % d.toNat : Nat) : Int) w) := by
  have hlx := hx.len
  have hwf := hx.wf
  have hval := hx.val
  rcases hx.rd with ⟨rfl, hxs⟩ | ⟨bx, ox, cx, rfl, hcx, hX⟩
  · have ha : a = 0 := by rw [hxs, val_nil] at hval; omega
    subst ha
    have h0 : ∀ w1 g, Own w.heap.size w1 (.slice (some ⟨g, 0, none⟩) 0 0) (List.replicate 0 0) → Nm w1 (.slice (some ⟨g, 0, none⟩) 0 0) [] (0 / d.toNat) := fun w1 g ho => ⟨ho.rd, wf_nil, by simp [val_nil], by simp⟩
    have HF : Hid (∀ v w', Own w.heap.size w' v (wd (0 / d.toNat)) → Below w.heap.size w w' → ResW (0 / d.toNat) ((0 % d.toNat : Nat) : Int) w (.returned (.tuple #[v, .int .u64 0])) w') := fun v w' h1 h2 => ⟨v, by simp, h1, h2⟩
    clear hxs hwf hval hx hlx
    go_enter Tryz.func164, Tryz.ntmps164
    go_wp2_with (at_make; refine wl_make rfl _ _ 24 rfl Tryz.underlying24 (B := w.heap.size) rfl rfl 0 rfl (by omega) (Nat.le_refl _) ?_; intro g w1 hg ho hb)
    have h4 := h0 _ _ ho
    have HB := Lib.hid hb
    clear hg ho hb h0
    refine wp_loop_rounds 1 ?_
    rw [rounds_succ]
    go_wp2_with fail
    refine ((trim_any h4).mono ?_)
    rintro e w' hres
    obtain ⟨v, rfl, hown, hbw⟩ := hres
    have hfin := HF.out v w' (hown.mono HB.out.size) (below_trans HB.out hbw)
    clear hown hbw h4
    go_wp2
    go_ret2
    exact hfin
  · have HF : Hid (∀ v r w', r = ((a % d.toNat : Nat) : Int) → Own w.heap.size w' v (wd (a / d.toNat)) → Below w.heap.size w w' → ResW (a / d.toNat) ((a % d.toNat : Nat) : Int) w (.returned (.tuple #[v, .int .u64 r])) w') := fun v r w' hr h1 h2 => ⟨v, by rw [hr], h1, h2⟩
    have HV := Lib.hid (And.intro hwf hval)
    clear hwf hval hx
    go_enter Tryz.func164, Tryz.ntmps164
    go_wp2_with (at_make; refine wl_make rfl _ _ 24 rfl Tryz.underlying24 (B := w.heap.size) rfl rfl xs.length rfl (by omega) (Nat.le_refl _) ?_; intro g w1 hg ho hb)
    have hgB : w.heap.size ≤ g := by have := hg.out; omega
    have HO := Lib.hid (And.intro ho hb)
    clear hg ho hb
    go_loopw [8, 7] (fun i c wr => ∃ (m : Nat) (r : Int) (O : List Int), m ≤ xs.length ∧ i = .int .i64 ((m : Int) - 1) ∧ c = .int .u64 r ∧ Own w.heap.size wr (.slice (some ⟨g, 0, none⟩) xs.length xs.length) O ∧ DwRel xs O d m r ∧ Below w.heap.size w wr) (fun i _ _ => (intOf i + 1).toNat)
    case atStart => exact ⟨_, _, _, Nat.le_refl _, rfl, rfl, HO.out.1, DwRel.start xs hd0, HO.out.2⟩
    case round =>
      obtain ⟨m, r, O, hm, rfl, rfl, ho, hr, hb⟩ := hrel
      by_cases h0 : m = 0
      · subst h0
        have hf := hr.fin HV.out.2 hd0
        have h4 : Nm wr (.slice (some ⟨g, 0, none⟩) xs.length xs.length) O (a / d.toNat) := ⟨ho.rd, hr.wf, hf.1, by rw [hr.len]; omega⟩
        have HB := Lib.hid (And.intro hb hf.2)
        clear ho hr hb hf hX
        go_wp2_with fail
        refine ((trim_any h4).mono ?_)
        rintro e w' hres
        obtain ⟨v, rfl, hown, hbw⟩ := hres
        have hfin := HF.out v r w' HB.out.2 (hown.mono HB.out.1.size) (below_trans HB.out.1 hbw)
        clear hown hbw h4
        go_wp2
        go_ret2
        exact hfin
      · obtain ⟨k, rfl⟩ : ∃ k, m = k + 1 := ⟨m - 1, by omega⟩
        have hxk := (hb.cell (lt_of_cell (hX k (by omega)))).trans (hX k (by omega))
        have hgk := ho.cell hr.len k (by omega)
        have hgf := ho.frozen hr.len k
        have HD := Lib.hid (div64 (lo := wa xs k) hr.r0 hr.r1 (wf_at HV.out.1 k) hd wr)
        have e1 : ((k + 1 : Nat) : Int) - 1 = k := by omega
        rw [e1]
        have HH := Lib.hid (And.intro ho (And.intro hr hb))
        clear ho hr hb hX e1 h0
        go_wp2_with fail
        refine HD.out.mono ?_
        rintro e w' ⟨rfl, n, rfl⟩
        go_wp2
        go_roundw
        case rel =>
          obtain ⟨ho, hr, hb⟩ := HH.out
          refine ⟨k, _, _, by omega, by go_num, rfl, ?_, hr.step HV.out.1 (by omega), ?_⟩
          · exact (ho.store hr.len k _).1.drew n
          · exact Drew.step' (hb.setCell hgB _) n
        case measure => simp [intOf]
end Go.Proofs.YtkfpjhjmedodlaaGreatDoor

/- wide.Bit, wide.Below: the walks. -/
set_option maxRecDepth 100000
namespace Go.Proofs.YtkfpjhjmedodlaaGreatDoor
open Go.RowKit Wd
theorem word_of {xs : List Int} {a q x : Nat} (hw : Wf xs) (hv : val xs = a) (hq : q < xs.length) (hx : wa xs q = x) : ∃ l t, l < 2 ^ (64 * q) ∧ a = l + 2 ^ (64 * q) * (x + 18446744073709551616 * t) := by
  have hs := val_split xs q (by omega)
  have hl := val_lt (wf_take hw q)
  have hl0 := val_nonneg (wf_take hw q)
  rw [List.length_take, Nat.min_eq_left (by omega), pw_two] at hl
  obtain ⟨l, hl2⟩ := Int.eq_ofNat_of_zero_le hl0
  obtain ⟨t, ht⟩ := Int.eq_ofNat_of_zero_le (val_nonneg (wf_drop hw (q + 1)))
  rw [hl2, val_drop xs q hq, ht, hx, hv, pw_two, B_eq] at hs
  rw [hl2] at hl
  refine ⟨l, t, by omega, ?_⟩
  have : (a : Int) = ((l + 2 ^ (64 * q) * (x + 18446744073709551616 * t) : Nat) : Int) := by
    rw [hs]
    simp
  omega
theorem testBit_word {xs : List Int} {a q r i x : Nat} (hw : Wf xs) (hv : val xs = a) (hq : q < xs.length) (hx : wa xs q = x) (hr : r < 64) (hi : i = 64 * q + r) :
    (bits .and .u64 ((x : Int) / 2 ^ r) 1 == 1) = a.testBit i := by
  obtain ⟨l, t, h1, h2⟩ := word_of hw hv hq hx
  have hxb := (wf_at hw q).2
  rw [hx, B_eq] at hxb
  have hd : x / 2 ^ r ≤ x := Nat.div_le_self _ _
  have e : ((x : Int) / 2 ^ r) = ((x / 2 ^ r : Nat) : Int) := by simp
  rw [e, show (1 : Int) = ((1 : Nat) : Int) from rfl, bits_and_u64_nat _ 1 (by omega) (by decide), Nat.and_one_is_mod, Nat.testBit_eq_decide_div_mod_eq]
  have key : a / 2 ^ i = x / 2 ^ r + 2 ^ (64 - r) * t := by
    rw [h2, hi, Nat.pow_add, ← Nat.div_div_eq_div_mul, Nat.add_mul_div_left _ _ (Nat.two_pow_pos _), Nat.div_eq_of_lt h1, Nat.zero_add]
    rw [show (18446744073709551616 : Nat) = 2 ^ r * 2 ^ (64 - r) by rw [← Nat.pow_add, show r + (64 - r) = 64 by omega], Nat.mul_assoc, Nat.add_mul_div_left _ _ (Nat.two_pow_pos _)]
  have hev : 2 ^ (64 - r) * t % 2 = 0 := by
    rw [show 64 - r = (63 - r) + 1 by omega, Nat.pow_succ, Nat.mul_assoc, Nat.mul_comm, Nat.mul_assoc]
    omega
  rw [key, Nat.add_mod, hev, Nat.add_zero, Nat.mod_mod]
  rw [Bool.eq_iff_iff]
  simp
  omega
theorem testBit_high {xs : List Int} {a q r i : Nat} (hw : Wf xs) (hv : val xs = a) (hq : xs.length ≤ q) (hi : i = 64 * q + r) : a.testBit i = false := by
  apply Nat.testBit_lt_two_pow
  have h1 := val_lt hw
  have h2 := pw_mono hq
  rw [pw_two q] at h2
  have h3 : 2 ^ (64 * q) ≤ 2 ^ i := Nat.pow_le_pow_right (by decide) (by omega)
  omega

set_option maxHeartbeats 1000000 in
theorem bit_any {w : World} {x : Value} {xs : List Int} {a : Nat} (hx : Nm w x xs a) (i : Nat) (hi : i ≤ 9000000000) :
    Calls Tryz.prog 177 #[x, .int .i64 i] w fun e w' => e = .returned (.bool (a.testBit i)) ∧ w = w' := by
  have hlx := hx.len
  obtain ⟨q, hq⟩ : ∃ q, q = i / 64 := ⟨_, rfl⟩
  obtain ⟨r, hr⟩ : ∃ r, r = i % 64 := ⟨_, rfl⟩
  have e1 : (i : Int) / 64 = q := by omega
  have e2 : (i : Int) % 64 = r := by omega
  have r0 : r < 64 := by omega
  have HS := Lib.hid (show i = 64 * q + r by omega)
  clear hq hr
  by_cases hql : q < xs.length
  · rcases hx.rd with ⟨rfl, hxs⟩ | ⟨bx, ox, cx, rfl, hcx, hX⟩
    · rw [hxs] at hql; exact absurd hql (Nat.not_lt_zero _)
    have hc := hX q hql
    obtain ⟨x, hx1⟩ := Int.eq_ofNat_of_zero_le (wf_at hx.wf q).1
    have HT := Lib.hid (testBit_word hx.wf hx.val hql hx1 r0 HS.out)
    rw [hx1] at hc
    clear hX hx hx1
    go_enter Tryz.func177, Tryz.ntmps177
    go_wp2
    go_ret
    exact ⟨by rw [← HT.out]; rfl, rfl⟩
  · have HT := Lib.hid (testBit_high (r := r) hx.wf hx.val (by omega) HS.out)
    rcases hx.rd with ⟨rfl, hxs⟩ | ⟨bx, ox, cx, rfl, hcx, hX⟩
    · have hl0 : xs.length ≤ 0 := by rw [hxs]; exact Nat.le_refl _
      clear hx hxs
      go_enter Tryz.func177, Tryz.ntmps177
      go_wp2
      go_ret
      exact ⟨by rw [HT.out]; rfl, rfl⟩
    · clear hx hX
      go_enter Tryz.func177, Tryz.ntmps177
      go_wp2
      go_ret
      exact ⟨by rw [HT.out]; rfl, rfl⟩
theorem tz_lt_iff {a s : Nat} (h : a ≠ 0) : tz a < s ↔ a % 2 ^ s ≠ 0 := by
  obtain ⟨m, hm⟩ := tz_spec h
  constructor
  · intro hlt hmod
    obtain ⟨c, hc⟩ := Nat.dvd_of_mod_eq_zero hmod
    obtain ⟨d, rfl⟩ : ∃ d, s = tz a + 1 + d := ⟨s - tz a - 1, by omega⟩
    rw [Nat.pow_add, Nat.pow_succ, Nat.mul_assoc, Nat.mul_assoc] at hc
    have h2 : 2 ^ tz a * (2 * m + 1) = 2 ^ tz a * (2 * (2 ^ d * c)) := by rw [← hm]; exact hc
    have h3 := Nat.eq_of_mul_eq_mul_left (Nat.two_pow_pos _) h2
    omega
  · intro hne
    by_cases hlt : tz a < s
    · exact hlt
    · exfalso
      apply hne
      obtain ⟨d, hd⟩ : ∃ d, tz a = s + d := ⟨tz a - s, by omega⟩
      rw [hm, hd, Nat.pow_add, Nat.mul_assoc]
      exact Nat.mul_mod_right _ _

set_option maxHeartbeats 1000000 in
theorem below_any {w : World} {x : Value} {xs : List Int} {a : Nat} (hx : Nm w x xs a) (hG : Glob w) (s : Nat) :
    Calls Tryz.prog 178 #[x, .int .i64 s] w fun e w' => e = .returned (.bool (decide (a % 2 ^ s ≠ 0))) ∧ w = w' := by
  by_cases hs : s = 0
  · subst hs
    go_enter Tryz.func178, Tryz.ntmps178
    go_wp2
    go_ret
    exact ⟨by simp [Nat.mod_one], rfl⟩
  · have hz := zero_any hx
    have ht := trailing_any hx hG
    by_cases ha : a = 0
    · subst ha
      go_enter Tryz.func178, Tryz.ntmps178
      go_wp2_with fail
      refine hz.mono ?_
      rintro e w' ⟨rfl, rfl⟩
      clear hz ht
      go_wp2
      go_ret
      exact ⟨by simp, rfl⟩
    · have HT := Lib.hid (tz_lt_iff (s := s) ha)
      go_enter Tryz.func178, Tryz.ntmps178
      go_wp2_with fail
      refine hz.mono ?_
      rintro e w' ⟨rfl, rfl⟩
      rw [decide_eq_false ha]
      clear hz
      go_wp2_with fail
      refine ht.mono ?_
      rintro e w' ⟨rfl, rfl⟩
      clear ht
      go_wp2
      go_ret
      exact ⟨by rw [← decide_eq_decide.2 HT.out]; rfl, rfl⟩
end Go.Proofs.YtkfpjhjmedodlaaGreatDoor

/- Division by the schoolbook: the plain laws of a digit of the quotient, its guess and its correction. -/
namespace Go.Proofs.YtkfpjhjmedodlaaGreatDoor
open Go.RowKit Wd
namespace Wd
/-- The guess of a digit: three digits by two, at most B - 1. -/
def gq (a b c v w : Int) : Int := min (B - 1) ((a * B * B + b * B + c) / (v * B + w))
structure G3 (a b c v w : Int) : Prop where
  ha : 0 ≤ a ∧ a ≤ v
  hb : 0 ≤ b ∧ b < B
  hc : 0 ≤ c ∧ c < B
  hv : 9223372036854775808 ≤ v ∧ v < B
  hw : 0 ≤ w ∧ w < B
variable {a b c v w q r : Int}
theorem mulB_nonneg {x : Int} (h : 0 ≤ x) : 0 ≤ x * B := Int.mul_nonneg h (Int.le_of_lt B_pos)
theorem G3.pos (h : G3 a b c v w) : 0 < v * B + w := by
  have := h.hv; have := h.hw
  have : 0 < v * B := Int.mul_pos (by omega) B_pos
  omega
theorem G3.le (h : G3 a b c v w) (hq : q < B) (h2 : q * (v * B + w) ≤ a * B * B + b * B + c) : q ≤ gq a b c v w := by
  have : q ≤ (a * B * B + b * B + c) / (v * B + w) := (Int.le_ediv_iff_mul_le h.pos).2 h2
  unfold gq
  omega
theorem G3.lt (h : G3 a b c v w) (h2 : a * B * B + b * B + c < q * (v * B + w)) : gq a b c v w < q := by
  have : (a * B * B + b * B + c) / (v * B + w) < q := (Int.ediv_lt_iff_lt_mul h.pos).2 h2
  unfold gq
  omega
theorem gq_lt : gq a b c v w < B := by unfold gq; omega
theorem G3.nonneg (h : G3 a b c v w) : 0 ≤ gq a b c v w := by
  have h1 := mulB_nonneg (mulB_nonneg h.ha.1)
  have h2 := mulB_nonneg h.hb.1
  have := h.hc
  have : 0 ≤ (a * B * B + b * B + c) / (v * B + w) := Int.ediv_nonneg (by omega) (Int.le_of_lt h.pos)
  unfold gq
  have := B_pos
  omega
/-- The loop's relation. -/
structure GRel (a b c v w q r : Int) (o : Bool) : Prop where
  qb : 0 ≤ q ∧ q < B
  rb : 0 ≤ r ∧ r < B
  lo : gq a b c v w ≤ q
  eq : o = false → q * v + r = a * B + b
  over : o = true → q = gq a b c v w
theorem GRel.ok (h : G3 a b c v w) (g : GRel a b c v w q r false) (ht : q * w ≤ r * B + c) : q = gq a b c v w := by
  have e := g.eq rfl
  have := h.le g.qb.2 (by
    have e2 : q * (v * B + w) = (q * v) * B + q * w := by grind
    have e3 : q * v = a * B + b - r := by omega
    rw [e2, e3]
    grind)
  have := g.lo
  omega
theorem GRel.lt (h : G3 a b c v w) (g : GRel a b c v w q r false) (ht : r * B + c < q * w) : gq a b c v w < q := by
  have e := g.eq rfl
  apply h.lt
  have e2 : q * (v * B + w) = (q * v) * B + q * w := by grind
  have e3 : q * v = a * B + b - r := by omega
  rw [e2, e3]
  grind
theorem GRel.next (h : G3 a b c v w) (g : GRel a b c v w q r false) (ht : r * B + c < q * w) : GRel a b c v w (q - 1) (alo r v 0) (ahi r v 0 == 1) := by
  have hlt := g.lt h ht
  have h0 := h.nonneg
  obtain ⟨e, x, y0, y1⟩ := add_law g.rb (show 0 ≤ v ∧ v < B by have := h.hv; omega) ⟨Int.le_refl 0, by decide⟩
  have eq := g.eq rfl
  refine ⟨⟨by omega, by have := g.qb; omega⟩, x, by omega, fun ho => ?_, fun ho => ?_⟩
  · have : ahi r v 0 = 0 := by
      have : ahi r v 0 ≠ 1 := by simpa using ho
      omega
    rw [this] at e
    rw [Int.sub_mul]
    omega
  · have hc : ahi r v 0 = 1 := by simpa using ho
    have hrv : B ≤ r + v := by rw [hc] at e; omega
    have hle : q - 1 ≤ gq a b c v w := by
      apply h.le (by have := g.qb; omega)
      have e2 : (q - 1) * (v * B + w) = (q * v - v) * B + (q - 1) * w := by grind
      have e3 : q * v = a * B + b - r := by omega
      have h4 : (q - 1) * w ≤ (B - 1) * (B - 1) := Int.mul_le_mul (by have := g.qb; omega) (by have := h.hw; omega) h.hw.1 (by decide)
      have h5 : B * B ≤ (r + v) * B := Int.mul_le_mul_of_nonneg_right hrv (Int.le_of_lt B_pos)
      have h6 := h.hc
      rw [e2, e3]
      have e7 : (a * B + b - r - v) * B = a * B * B + b * B - (r + v) * B := by grind
      have e8 : (B - 1) * (B - 1) = B * B - 2 * B + 1 := by grind
      have := B_pos
      rw [e7]
      rw [e8] at h4
      omega
    omega
theorem GRel.start (h : G3 a b c v w) (ha : a < v) : GRel a b c v w (dq a b v) (dr a b v) false := by
  obtain ⟨e, x, y0, y1⟩ := div_law h.ha.1 ha h.hb
  refine ⟨x, ⟨y0, by have := h.hv; omega⟩, ?_, fun _ => e, fun h => by cases h⟩
  have : gq a b c v w < dq a b v + 1 := by
    apply h.lt
    have e2 : (dq a b v + 1) * (v * B + w) = (dq a b v * v) * B + v * B + (dq a b v + 1) * w := by grind
    have e3 : dq a b v * v = a * B + b - dr a b v := by omega
    have h4 : 0 ≤ (dq a b v + 1) * w := Int.mul_nonneg (by omega) h.hw.1
    have h5 : (dr a b v + 1) * B ≤ v * B := Int.mul_le_mul_of_nonneg_right (by omega) (Int.le_of_lt B_pos)
    have := h.hc
    rw [e2, e3]
    rw [Int.add_mul] at h5
    have e6 : (a * B + b - dr a b v) * B = a * B * B + b * B - dr a b v * B := by grind
    rw [e6]
    omega
  omega
theorem GRel.start' (h : G3 a b c v w) (ha : a = v) : GRel a b c v w (B - 1) (alo b v 0) (ahi b v 0 == 1) := by
  obtain ⟨e, x, y0, y1⟩ := add_law h.hb (show 0 ≤ v ∧ v < B by have := h.hv; omega) ⟨Int.le_refl 0, by decide⟩
  refine ⟨⟨by decide, by omega⟩, x, by have := @gq_lt a b c v w; omega, fun ho => ?_, fun ho => ?_⟩
  · have : ahi b v 0 = 0 := by
      have : ahi b v 0 ≠ 1 := by simpa using ho
      omega
    rw [this] at e
    rw [Int.sub_mul, ha, Int.mul_comm B v]
    omega
  · have hc : ahi b v 0 = 1 := by simpa using ho
    have hrv : B ≤ b + v := by rw [hc] at e; omega
    have hle : B - 1 ≤ gq a b c v w := by
      apply h.le (by omega)
      have h4 : (B - 1) * w ≤ (B - 1) * (B - 1) := Int.mul_le_mul_of_nonneg_left (by have := h.hw; omega) (by decide)
      have h5 : B * B ≤ (b + v) * B := Int.mul_le_mul_of_nonneg_right hrv (Int.le_of_lt B_pos)
      have h6 := h.hc
      have e7 : (B - 1) * (v * B + w) = v * B * B - v * B + (B - 1) * w := by grind
      have e8 : (B - 1) * (B - 1) = B * B - 2 * B + 1 := by grind
      have := B_pos
      rw [e7, ha]
      rw [e8] at h4
      rw [Int.add_mul] at h5
      omega
    have := @gq_lt a b c v w
    omega
/-- The guess is the digit, or 1 too great. U = U3 p + u, V = V2 p + z, with u and z less than p. -/
theorem gq_digit {U V p u z : Int} (h : G3 a b c v w) (hU : U = (a * B * B + b * B + c) * p + u) (hV : V = (v * B + w) * p + z) (hp : 0 < p) (hu : 0 ≤ u ∧ u < p) (hz : 0 ≤ z ∧ z < p) (hlt : U < V * B) :
    U / V ≤ gq a b c v w ∧ gq a b c v w ≤ U / V + 1 := by
  have hVp : 0 < V := by
    have : 0 < (v * B + w) * p := Int.mul_pos h.pos hp
    omega
  have hU0 : 0 ≤ U := by
    have h1 := mulB_nonneg (mulB_nonneg h.ha.1)
    have h2 := mulB_nonneg h.hb.1
    have := h.hc
    have : 0 ≤ (a * B * B + b * B + c) * p := Int.mul_nonneg (by omega) (Int.le_of_lt hp)
    omega
  have hQ0 : 0 ≤ U / V := Int.ediv_nonneg hU0 (Int.le_of_lt hVp)
  have hQB : U / V < B := by rw [Int.ediv_lt_iff_lt_mul hVp, Int.mul_comm]; exact hlt
  have hQm : U / V * V ≤ U := (Int.le_ediv_iff_mul_le hVp).1 (Int.le_refl _)
  have hQn : U < (U / V + 1) * V := (Int.ediv_lt_iff_lt_mul hVp).1 (by omega)
  constructor
  · apply h.le hQB
    generalize U / V = Q at *
    have h1 : Q * ((v * B + w) * p) ≤ Q * V := Int.mul_le_mul_of_nonneg_left (by omega) hQ0
    have h2 : Q * (v * B + w) * p < (a * B * B + b * B + c + 1) * p := by
      rw [Int.mul_assoc, Int.add_mul _ 1, Int.one_mul]
      omega
    have := Int.lt_of_mul_lt_mul_right h2 (Int.le_of_lt hp)
    omega
  · have hg0 := h.nonneg
    have hg1 := @gq_lt a b c v w
    have hgm : gq a b c v w * (v * B + w) ≤ a * B * B + b * B + c := by
      have : gq a b c v w ≤ (a * B * B + b * B + c) / (v * B + w) := by unfold gq; omega
      exact (Int.le_ediv_iff_mul_le h.pos).1 this
    generalize gq a b c v w = g at *
    generalize U / V = Q at *
    by_cases hcon : g ≤ Q + 1
    · exact hcon
    · exfalso
      have h1 : (Q + 2) * V ≤ g * V := Int.mul_le_mul_of_nonneg_right (by omega) (Int.le_of_lt hVp)
      have h2 : g * V = g * (v * B + w) * p + g * z := by rw [hV]; grind
      have h3 : g * (v * B + w) * p ≤ (a * B * B + b * B + c) * p := Int.mul_le_mul_of_nonneg_right hgm (Int.le_of_lt hp)
      have h4 : g * z ≤ g * p := Int.mul_le_mul_of_nonneg_left (by omega) hg0
      have h5 : g * p ≤ B * p := Int.mul_le_mul_of_nonneg_right (by omega) (Int.le_of_lt hp)
      have h6 : B * p ≤ (v * B + w) * p := by
        apply Int.mul_le_mul_of_nonneg_right _ (Int.le_of_lt hp)
        have h7 : 1 * B ≤ v * B := Int.mul_le_mul_of_nonneg_right (by have := h.hv; omega) (Int.le_of_lt B_pos)
        have := h.hw
        omega
      have e1 : (Q + 2) * V = (Q + 1) * V + V := by grind
      omega
end Wd
end Go.Proofs.YtkfpjhjmedodlaaGreatDoor

/- wide.guess: the walk. -/
set_option maxRecDepth 100000
namespace Go.Proofs.YtkfpjhjmedodlaaGreatDoor
open Go.RowKit Wd
set_option maxHeartbeats 4000000 in
theorem guess_any {a b c v w : Int} (h : G3 a b c v w) (W : World) :
    Calls Tryz.prog 166 #[.int .u64 a, .int .u64 b, .int .u64 c, .int .u64 v, .int .u64 w] W fun e w' => e = .returned (.int .u64 (gq a b c v w)) ∧ Drew W w' := by
  have h1 := h.ha.1
  have h2 := h.ha.2
  have HL : Hid (∀ (q r : Int) (o : Bool), GRel a b c v w q r o → (o = true ∨ q * w ≤ r * B + c) → q = gq a b c v w) := fun q r o g ht => by
    cases o with
    | true => exact g.over rfl
    | false => rcases ht with ht | ht; cases ht; exact g.ok h ht
  have key : ∀ (W0 : World) (n : Nat), W0 = W.drewN n → Drew W W0 := fun _ n e => ⟨n, e⟩
  go_enter Tryz.func166, Tryz.ntmps166
  by_cases hav : a = v
  · have hS := Lib.hid (GRel.start' h hav)
    have t1 : (a == v) = true := beq_iff_eq.2 hav
    have vb : 0 ≤ v ∧ v < B := ⟨by omega, h.hv.2⟩
    have hb := h.hb
    have HA := Lib.hid h
    have DR := Lib.hid (Drew.refl W)
    clear hav h key
    go_wp2_with (rw [add64 hb vb ⟨Int.le_refl 0, by decide⟩])
    clear vb hb
    go_loop [11, 12, 13] (fun q r o => ∃ (q' r' : Int) (o' : Bool), q = .int .u64 q' ∧ r = .int .u64 r' ∧ o = .bool o' ∧ GRel a b c v w q' r' o') (fun q _ _ => (intOf q).toNat)
    case atStart => exact ⟨_, _, _, rfl, rfl, rfl, hS.out⟩
    case round =>
      obtain ⟨q, r, o, rfl, rfl, rfl, g⟩ := hrel
      cases o with
      | true =>
        have HQ := Lib.hid (HL.out q r true g (.inl rfl))
        clear g
        go_wp2
        go_ret
        exact ⟨by rw [← HQ.out]; rfl, DR.out⟩
      | false =>
        have hqb := g.qb
        have hrb := g.rb
        have hwb := HA.out.hw
        have hvb : 0 ≤ v ∧ v < B := ⟨by have := HA.out.hv; omega, HA.out.hv.2⟩
        obtain ⟨e, m1, m2, -⟩ := mul_law hqb hwb
        have hcb := HA.out.hc
        have hB := B_pos
        have hstop : (mhi q w < r ∨ (mhi q w = r ∧ mlo q w ≤ c)) → q * w ≤ r * B + c := by
          rintro (h | ⟨h, h'⟩)
          · have h5 : (mhi q w + 1) * B ≤ r * B := Int.mul_le_mul_of_nonneg_right (by omega) (Int.le_of_lt hB)
            rw [Int.add_mul, Int.mul_comm _ B] at h5
            omega
          · rw [e, h, Int.mul_comm B]
            omega
        have hgo : (r < mhi q w ∨ (mhi q w = r ∧ c < mlo q w)) → r * B + c < q * w := by
          rintro (h | ⟨h, h'⟩)
          · have h5 : (r + 1) * B ≤ mhi q w * B := Int.mul_le_mul_of_nonneg_right (by omega) (Int.le_of_lt hB)
            rw [Int.add_mul, Int.mul_comm (mhi q w) B] at h5
            omega
          · rw [e, h, Int.mul_comm B]
            omega
        have HST := Lib.hid (fun h => HL.out q r false g (.inr (hstop h)))
        have HGO := Lib.hid (fun h => (And.intro (g.lt HA.out (hgo h)) (g.next HA.out (hgo h))))
        have hq0 := hqb.1
        clear e m1 hB hstop hgo g
        have hcb' := Lib.hid hcb
        clear hcb
        rcases Int.lt_trichotomy (mhi q w) r with h | h | h
        · have HQ := Lib.hid (HST.out (.inl h))
          go_wp2_with (refine (mul64 hqb hwb _).mono ?_; rintro e w' ⟨rfl, rfl⟩)
          go_ret
          exact ⟨by rw [← HQ.out]; rfl, DR.out⟩
        · by_cases hc : mlo q w ≤ c
          · have HQ := Lib.hid (HST.out (.inr ⟨h, hc⟩))
            have t2 : (mhi q w == r) = true := beq_iff_eq.2 h
            have t3 : ¬ mhi q w < r := by omega
            clear h
            go_wp2_with (refine (mul64 hqb hwb _).mono ?_; rintro e w' ⟨rfl, rfl⟩)
            go_ret
            exact ⟨by rw [← HQ.out]; rfl, DR.out⟩
          · have HN := Lib.hid (HGO.out (.inr ⟨h, by omega⟩))
            have t2 : (mhi q w == r) = true := beq_iff_eq.2 h
            have t3 : ¬ mhi q w < r := by omega
            have hq1 : 1 ≤ q := by have := HN.out.1; have := HA.out.nonneg; omega
            have hw1 : IntKind.u64.wrap (q - 1) = q - 1 := wrap_u64 (by omega) (by omega)
            clear h
            go_wp2_with (first | (refine (mul64 hqb hwb _).mono ?_; rintro e w' ⟨rfl, rfl⟩) | rw [add64 hrb hvb ⟨Int.le_refl 0, by decide⟩])
            go_round
            case rel => exact ⟨_, _, _, rfl, rfl, rfl, HN.out.2⟩
            case measure => simp [intOf]; omega
        · have HN := Lib.hid (HGO.out (.inl h))
          have t2 : (mhi q w == r) = false := beq_eq_false_iff_ne.2 (by omega)
          have t3 : ¬ mhi q w < r := by omega
          have hq1 : 1 ≤ q := by have := HN.out.1; have := HA.out.nonneg; omega
          have hw1 : IntKind.u64.wrap (q - 1) = q - 1 := wrap_u64 (by omega) (by omega)
          go_wp2_with (first | (refine (mul64 hqb hwb _).mono ?_; rintro e w' ⟨rfl, rfl⟩) | rw [add64 hrb hvb ⟨Int.le_refl 0, by decide⟩])
          go_round
          case rel => exact ⟨_, _, _, rfl, rfl, rfl, HN.out.2⟩
          case measure => simp [intOf]; omega
  · have hS := Lib.hid (GRel.start h (by omega))
    have t1 : (a == v) = false := beq_eq_false_iff_ne.2 hav
    have HD := Lib.hid (div64 h1 (by omega) h.hb h.hv.2 W)
    have HA := Lib.hid h
    clear hav h
    go_wp2_with fail
    refine HD.out.mono ?_
    rintro e w' ⟨rfl, n, rfl⟩
    have DR := Lib.hid (key _ n rfl)
    clear HD key
    go_wp2
    go_loop [11, 12, 13] (fun q r o => ∃ (q' r' : Int) (o' : Bool), q = .int .u64 q' ∧ r = .int .u64 r' ∧ o = .bool o' ∧ GRel a b c v w q' r' o') (fun q _ _ => (intOf q).toNat)
    case atStart => exact ⟨_, _, _, rfl, rfl, rfl, hS.out⟩
    case round =>
      obtain ⟨q, r, o, rfl, rfl, rfl, g⟩ := hrel
      cases o with
      | true =>
        have HQ := Lib.hid (HL.out q r true g (.inl rfl))
        clear g
        go_wp2
        go_ret
        exact ⟨by rw [← HQ.out]; rfl, DR.out⟩
      | false =>
        have hqb := g.qb
        have hrb := g.rb
        have hwb := HA.out.hw
        have hvb : 0 ≤ v ∧ v < B := ⟨by have := HA.out.hv; omega, HA.out.hv.2⟩
        obtain ⟨e, m1, m2, -⟩ := mul_law hqb hwb
        have hcb := HA.out.hc
        have hB := B_pos
        have hstop : (mhi q w < r ∨ (mhi q w = r ∧ mlo q w ≤ c)) → q * w ≤ r * B + c := by
          rintro (h | ⟨h, h'⟩)
          · have h5 : (mhi q w + 1) * B ≤ r * B := Int.mul_le_mul_of_nonneg_right (by omega) (Int.le_of_lt hB)
            rw [Int.add_mul, Int.mul_comm _ B] at h5
            omega
          · rw [e, h, Int.mul_comm B]
            omega
        have hgo : (r < mhi q w ∨ (mhi q w = r ∧ c < mlo q w)) → r * B + c < q * w := by
          rintro (h | ⟨h, h'⟩)
          · have h5 : (r + 1) * B ≤ mhi q w * B := Int.mul_le_mul_of_nonneg_right (by omega) (Int.le_of_lt hB)
            rw [Int.add_mul, Int.mul_comm (mhi q w) B] at h5
            omega
          · rw [e, h, Int.mul_comm B]
            omega
        have HST := Lib.hid (fun h => HL.out q r false g (.inr (hstop h)))
        have HGO := Lib.hid (fun h => (And.intro (g.lt HA.out (hgo h)) (g.next HA.out (hgo h))))
        have hq0 := hqb.1
        clear e m1 hB hstop hgo g
        have hcb' := Lib.hid hcb
        clear hcb
        rcases Int.lt_trichotomy (mhi q w) r with h | h | h
        · have HQ := Lib.hid (HST.out (.inl h))
          go_wp2_with (refine (mul64 hqb hwb _).mono ?_; rintro e w' ⟨rfl, rfl⟩)
          go_ret
          exact ⟨by rw [← HQ.out]; rfl, DR.out⟩
        · by_cases hc : mlo q w ≤ c
          · have HQ := Lib.hid (HST.out (.inr ⟨h, hc⟩))
            have t2 : (mhi q w == r) = true := beq_iff_eq.2 h
            have t3 : ¬ mhi q w < r := by omega
            clear h
            go_wp2_with (refine (mul64 hqb hwb _).mono ?_; rintro e w' ⟨rfl, rfl⟩)
            go_ret
            exact ⟨by rw [← HQ.out]; rfl, DR.out⟩
          · have HN := Lib.hid (HGO.out (.inr ⟨h, by omega⟩))
            have t2 : (mhi q w == r) = true := beq_iff_eq.2 h
            have t3 : ¬ mhi q w < r := by omega
            have hq1 : 1 ≤ q := by have := HN.out.1; have := HA.out.nonneg; omega
            have hw1 : IntKind.u64.wrap (q - 1) = q - 1 := wrap_u64 (by omega) (by omega)
            clear h
            go_wp2_with (first | (refine (mul64 hqb hwb _).mono ?_; rintro e w' ⟨rfl, rfl⟩) | rw [add64 hrb hvb ⟨Int.le_refl 0, by decide⟩])
            go_round
            case rel => exact ⟨_, _, _, rfl, rfl, rfl, HN.out.2⟩
            case measure => simp [intOf]; omega
        · have HN := Lib.hid (HGO.out (.inl h))
          have t2 : (mhi q w == r) = false := beq_eq_false_iff_ne.2 (by omega)
          have t3 : ¬ mhi q w < r := by omega
          have hq1 : 1 ≤ q := by have := HN.out.1; have := HA.out.nonneg; omega
          have hw1 : IntKind.u64.wrap (q - 1) = q - 1 := wrap_u64 (by omega) (by omega)
          go_wp2_with (first | (refine (mul64 hqb hwb _).mono ?_; rintro e w' ⟨rfl, rfl⟩) | rw [add64 hrb hvb ⟨Int.le_refl 0, by decide⟩])
          go_round
          case rel => exact ⟨_, _, _, rfl, rfl, rfl, HN.out.2⟩
          case measure => simp [intOf]; omega
end Go.Proofs.YtkfpjhjmedodlaaGreatDoor
