/- What wide.Add, wide.Mul, wide.Cmp give, for rows of words that lie whole in memory. -/
import Derived.Test.YtkfpjhjmedodlaaGreatDoorShelf
import Derived.Test.YtkfpjhjmedodlaaGreatDoorPa
import Derived.Deep.QuietTactic
import Derived.BigQuiet
/- math/bits.Mul64 in plain functions; values of rows that are written in the middle. -/
namespace Go.Proofs.YtkfpjhjmedodlaaGreatDoor
open Go.RowKit Wd
namespace Wd
def mhi (x y : Int) : Int := x * y / B
def mlo (x y : Int) : Int := x * y % B
theorem mul_bound {x y : Int} (hx : 0 ≤ x ∧ x < B) (hy : 0 ≤ y ∧ y < B) : 0 ≤ x * y ∧ x * y ≤ (B - 1) * (B - 1) :=
  ⟨Int.mul_nonneg hx.1 hy.1, Int.mul_le_mul (by omega) (by omega) hy.1 (by have := B_pos; omega)⟩
theorem mul_law {x y : Int} (hx : 0 ≤ x ∧ x < B) (hy : 0 ≤ y ∧ y < B) :
    x * y = mlo x y + B * mhi x y ∧ (0 ≤ mlo x y ∧ mlo x y < B) ∧ 0 ≤ mhi x y ∧ mhi x y ≤ B - 2 := by
  have h := mul_bound hx hy
  generalize hp : x * y = p at h
  unfold mlo mhi
  rw [hp]
  simp only [B_eq] at h ⊢
  omega
theorem wa_set {xs : List Int} {k : Nat} (v : Int) (j : Nat) (h : k < xs.length) : wa (xs.set k v) j = if j = k then v else wa xs j := by
  unfold wa
  rw [List.getElem?_set]
  by_cases e : k = j
  · subst e; simp [h]
  · rw [if_neg e, if_neg (fun h => e h.symm)]
theorem wf_set {xs : List Int} (h : Wf xs) {k : Nat} {v : Int} (h0 : 0 ≤ v) (h1 : v < B) : Wf (xs.set k v) := fun x hx => by
  rcases List.mem_or_eq_of_mem_set hx with h2 | rfl
  · exact h x h2
  · exact ⟨h0, h1⟩
theorem val_set {xs : List Int} {k : Nat} (v : Int) (h : k < xs.length) : val (xs.set k v) = val xs + pw k * (v - wa xs k) := by
  have e := List.set_eq_take_append_cons_drop (l := xs) (i := k) (a := v)
  rw [if_pos h] at e
  rw [e, val_append, val_cons, List.length_take, Nat.min_eq_left (Nat.le_of_lt h), val_split xs k (Nat.le_of_lt h), val_drop xs k h]
  grind
end Wd
theorem mul64 {x y : Int} (hx : 0 ≤ x ∧ x < B) (hy : 0 ≤ y ∧ y < B) (w : World) : Calls Tryz.prog 106 #[.int .u64 x, .int .u64 y] w fun e w' => e = .returned (.tuple #[.int .u64 (mhi x y), .int .u64 (mlo x y)]) ∧ w = w' := by
  obtain ⟨x, rfl⟩ := Int.eq_ofNat_of_zero_le hx.1
  obtain ⟨y, rfl⟩ := Int.eq_ofNat_of_zero_le hy.1
  rw [B_eq] at hx hy
  refine (Tryz.bits_Mul64 x y (by omega) (by omega) w).mono ?_
  rintro e w' ⟨rfl, rfl⟩
  refine ⟨?_, rfl⟩
  simp only [mhi, mlo, B_eq]
  simp
end Go.Proofs.YtkfpjhjmedodlaaGreatDoor

/- wide.Add: the walk. -/
set_option maxRecDepth 100000
namespace Go.Proofs.YtkfpjhjmedodlaaGreatDoor
open Go.RowKit Wd
/-- The relation of the loop: k words are done. -/
structure AddRel (xs ys zs : List Int) (k : Nat) (c : Int) : Prop where
  len : zs.length = k
  wf : Wf zs
  c0 : 0 ≤ c
  c1 : c ≤ 1
  val : val zs + pw k * c = val (xs.take k) + val (ys.take k)
theorem AddRel.zero (xs ys : List Int) : AddRel xs ys [] 0 0 := ⟨rfl, wf_nil, by decide, by decide, by simp [val_nil]⟩
theorem AddRel.step {xs ys zs : List Int} {k : Nat} {c : Int} (h : AddRel xs ys zs k c) (hx : Wf xs) (hy : Wf ys) :
    AddRel xs ys (zs ++ [alo (wa xs k) (wa ys k) c]) (k + 1) (ahi (wa xs k) (wa ys k) c) := by
  obtain ⟨h1, h2, h3, h4⟩ := add_law (wf_at hx k) (wf_at hy k) ⟨h.c0, h.c1⟩
  refine ⟨by simp [h.len], wf_append.2 ⟨h.wf, wf_one h2.1 h2.2⟩, h3, h4, ?_⟩
  rw [val_snoc, h.len, val_take_succ', val_take_succ', pw_succ]
  have := h.val
  grind
theorem AddRel.fin {xs ys zs : List Int} {c : Int} (h : AddRel xs ys zs xs.length c) (hle : ys.length ≤ xs.length) : Wf (zs ++ [c]) ∧ Wd.val (zs ++ [c]) = Wd.val xs + Wd.val ys := by
  refine ⟨wf_append.2 ⟨h.wf, wf_one h.c0 (Int.lt_of_le_of_lt h.c1 (by decide))⟩, ?_⟩
  have := h.val
  rw [List.take_of_length_le (Nat.le_refl _), List.take_of_length_le hle] at this
  rw [val_snoc, h.len]
  exact this
theorem set_mid (zs : List Int) (k n : Nat) (v : Int) (h : zs.length = k) : (zs ++ List.replicate (n + 1) 0).set k v = (zs ++ [v]) ++ List.replicate n 0 := by
  subst h
  simp [List.replicate_succ]

set_option maxHeartbeats 1000000 in
theorem add_core {w : World} {x y : Value} {xs ys : List Int} {a b : Nat} (hx : Nm w x xs a) (hy : Nm w y ys b) (hs : xs.length < 100000000) (args : Array Value)
    (hargs : (args = #[x, y] ∧ ¬ xs.length < ys.length) ∨ (args = #[y, x] ∧ ys.length < xs.length)) :
    Calls Tryz.prog 156 args w (Res (a + b) w) := by
  have hxl := hx.len
  have hyl := hy.len
  rcases hx.rd with ⟨rfl, hxs⟩ | ⟨bx, ox, cx, rfl, hcx, hx2⟩
  · have ha : a = 0 := by have := hx.val; rw [hxs, val_nil] at this; omega
    have hyl : ys = [] := by
      apply List.length_eq_zero_iff.1
      rw [hxs] at hargs
      rcases hargs with ⟨-, h⟩ | ⟨-, h⟩ <;> simp at h <;> simp [h]
    have hb : b = 0 := by have := hy.val; rw [hyl, val_nil] at this; omega
    subst ha hb
    have hone : ∀ w1 g, Own w.heap.size w1 (.slice (some ⟨g, 0, none⟩) 1 1) (List.replicate 1 0) → Nm (w1.setCell ⟨g, 0, none⟩ (.int .u64 0)) (.slice (some ⟨g, 0, none⟩) 1 1) [0] 0 := fun w1 g ho =>
      ⟨(ho.store rfl 0 0).1.rd, wf_one (Int.le_refl _) B_pos, by simp [val_one], by simp⟩
    clear hx hxs hs hxl
    rcases hy.rd with ⟨rfl, -⟩ | ⟨by_, oy, cy, rfl, hcy, -⟩ <;> rcases hargs with ⟨rfl, -⟩ | ⟨rfl, hlt⟩ <;> (try (exfalso; rw [hyl] at hlt; simp at hlt; done))
    all_goals
      try rw [hyl]
      clear hy
      try simp only [List.length_nil]
      go_enter Tryz.func156, Tryz.ntmps156
      go_wp2_with (at_make; refine wl_make rfl (.tmp 18) (.tmp 18) 24 rfl Tryz.underlying24 (B := w.heap.size) rfl rfl 1 rfl (by omega) (Nat.le_refl _) ?_; intro g w1 hg ho hb)
      refine wp_loop_rounds 1 ?_
      rw [rounds_succ]
      have hgk := ho.cell rfl 0 (by omega)
      have hgf := ho.frozen rfl 0
      have hgB : w.heap.size ≤ g := by have := hg.out; omega
      have hb2 := Lib.hid (hb.setCell (p := ⟨g, 0, none⟩) hgB (.int .u64 0))
      have h4 := hone _ _ ho
      clear hg ho hb hone
      go_wp2_with fail
      refine ((trim_any h4).mono ?_)
      rintro e w' hres
      obtain ⟨v, rfl, hown, hbw⟩ := hres
      have hfin : Own w.heap.size w' v (wd (0 + 0)) ∧ Below w.heap.size w w' := ⟨hown.mono hb2.out.size, below_trans hb2.out hbw⟩
      clear hbw hb2 h4 hgk hgf
      go_wp2
      go_ret
      exact ⟨v, rfl, hfin.1, hfin.2⟩
  rcases hy.rd with ⟨rfl, hys⟩ | ⟨by_, oy, cy, rfl, hcy, hy2⟩ <;> rcases hargs with ⟨rfl, hlt⟩ | ⟨rfl, hlt⟩
  all_goals
    try (have hys0 : ys.length ≤ 0 := by rw [hys]; exact Nat.le_refl _)
    try (have Hys := Lib.hid hys; clear hys)
    go_enter Tryz.func156, Tryz.ntmps156
    go_wp2_with (at_make; refine wl_make rfl (.tmp 18) (.tmp 18) 24 rfl Tryz.underlying24 (B := w.heap.size) rfl rfl (xs.length + 1) (by simp) (by omega) (Nat.le_refl _) ?_; intro g w1 hg ho hb)
    have hgw := hg.out
    have hgB : w.heap.size ≤ g := by omega
    clear hgw
    have HO := Lib.hid ho
    clear ho
    go_loopw [22, 6] (fun i c wr => ∃ (k : Nat) (cc : Int) (zs : List Int), k ≤ xs.length ∧ i = .int .i64 k ∧ c = .int .u64 cc ∧ Own w.heap.size wr (.slice (some ⟨g, 0, none⟩) (xs.length + 1) (xs.length + 1)) (zs ++ List.replicate (xs.length + 1 - k) 0) ∧ AddRel xs ys zs k cc ∧ Below w.heap.size w wr) (fun i _ _ => xs.length - (intOf i).toNat)
    case atStart => exact ⟨0, 0, [], by omega, rfl, rfl, HO.out, AddRel.zero _ _, hb⟩
    case round =>
      obtain ⟨k, cc, zs, hk, rfl, rfl, ho, hr, hb'⟩ := hrel
      by_cases hkx : k < xs.length
      · have hxk := (hb'.cell (lt_of_cell (hx2 k hkx))).trans (hx2 k hkx)
        have hlen : (zs ++ List.replicate (xs.length + 1 - k) 0).length = xs.length + 1 := by simp [hr.len]; omega
        have hgk := ho.cell hlen k (by omega)
        have hgf := ho.frozen hlen k
        have h0 := wf_at hx.wf k
        have hc0 := And.intro hr.c0 hr.c1
        by_cases hky : k < ys.length
        · try (exfalso; omega)
          all_goals
            have hyk := (hb'.cell (lt_of_cell (hy2 k hky))).trans (hy2 k hky)
            have h1 := wf_at hy.wf k
            have HH := Lib.hid (And.intro ho (And.intro hr (And.intro hb' hlen)))
            (try clear hy2); clear ho hr hb' hlen hx2 hb
            go_wp2_with (rw [add64 h0 h1 hc0])
            go_roundw
            case rel =>
              obtain ⟨ho, hr, hb', hlen⟩ := HH.out
              have e : xs.length + 1 - k = (xs.length + 1 - (k + 1)) + 1 := by omega
              have h2 := ho.store hlen k (alo (wa xs k) (wa ys k) cc)
              refine ⟨k + 1, _, _, by omega, by go_num, rfl, ?_, hr.step hx.wf hy.wf, hb'.setCell hgB _⟩
              rw [← set_mid _ _ _ _ hr.len, ← e]
              exact h2.1
            case measure => simp [intOf]; omega
        · have hy0 : wa ys k = 0 := wa_ge (by omega)
          have HH := Lib.hid (And.intro ho (And.intro hr (And.intro hb' (And.intro hlen hy0))))
          (try clear hy2); clear ho hr hb' hlen hx2 hb hy0
          go_wp2_with (rw [add64 h0 ⟨Int.le_refl 0, B_pos⟩ hc0])
          go_roundw
          case rel =>
            obtain ⟨ho, hr, hb', hlen, hy0⟩ := HH.out
            have e : xs.length + 1 - k = (xs.length + 1 - (k + 1)) + 1 := by omega
            have h2 := ho.store hlen k (alo (wa xs k) 0 cc)
            have h3 := hr.step hx.wf hy.wf
            rw [hy0] at h3
            refine ⟨k + 1, _, _, by omega, by go_num, rfl, ?_, h3, hb'.setCell hgB _⟩
            rw [← set_mid _ _ _ _ hr.len, ← e]
            exact h2.1
          case measure => simp [intOf]; omega
      · obtain rfl : k = xs.length := by omega
        have hlen : (zs ++ List.replicate (xs.length + 1 - xs.length) 0).length = xs.length + 1 := by simp [hr.len]
        have hgk := ho.cell hlen xs.length (by omega)
        have hgf := ho.frozen hlen xs.length
        have h2 := ho.store hlen xs.length cc
        have h3 := hr.fin (by omega)
        rw [show xs.length + 1 - xs.length = 0 + 1 by omega, set_mid _ _ _ _ hr.len, List.replicate_zero, List.append_nil] at h2
        have h4 : Nm (wr.setCell ⟨g, xs.length, none⟩ (.int .u64 cc)) (.slice (some ⟨g, 0, none⟩) (xs.length + 1) (xs.length + 1)) (zs ++ [cc]) (a + b) :=
          ⟨h2.1.rd, h3.1, by rw [h3.2, hx.val, hy.val]; simp, by simp [hr.len]; omega⟩
        have HH := Lib.hid (And.intro h2 (And.intro hb' h4))
        (try clear hy2); clear ho hr hb' hlen hx2 hb h2 h3 h4
        go_wp2_with fail
        obtain ⟨h2, hb', h4⟩ := HH.out
        refine ((trim_any h4).mono ?_)
        rintro e w' hres
        obtain ⟨v, rfl, hown, hbw⟩ := hres
        have hb2 := hb'.setCell (p := ⟨g, xs.length, none⟩) hgB (.int .u64 cc)
        have hfin : Own w.heap.size w' v (wd (a + b)) ∧ Below w.heap.size w w' := ⟨hown.mono hb2.size, below_trans hb2 hbw⟩
        clear hbw hb2 hb' h2 h4 hgk hgf
        go_wp2
        go_ret
        exact ⟨v, rfl, hfin.1, hfin.2⟩
theorem add_any {w : World} {x y : Value} {xs ys : List Int} {a b : Nat} (hx : Nm w x xs a) (hy : Nm w y ys b) (hs : xs.length + ys.length < 100000000) :
    Calls Tryz.prog 156 #[x, y] w (Res (a + b) w) := by
  by_cases h : xs.length < ys.length
  · rw [Nat.add_comm]
    exact add_core hy hx (by omega) _ (.inr ⟨rfl, h⟩)
  · exact add_core hx hy (by omega) _ (.inl ⟨rfl, h⟩)
end Go.Proofs.YtkfpjhjmedodlaaGreatDoor

/- wide.Mul: the walk. -/
set_option maxRecDepth 100000
namespace Go.Proofs.YtkfpjhjmedodlaaGreatDoor
open Go.RowKit Wd
/-- Rows of n + m words; i words of xs are done. -/
structure MulRel (xs ys O : List Int) (i : Nat) : Prop where
  len : O.length = xs.length + ys.length
  wf : Wf O
  zero : ∀ t, i + ys.length ≤ t → wa O t = 0
  val : val O = val (xs.take i) * val ys
structure MulIn (xs ys O : List Int) (i j : Nat) (c : Int) : Prop where
  len : O.length = xs.length + ys.length
  wf : Wf O
  zero : ∀ t, i + ys.length ≤ t → wa O t = 0
  cw : 0 ≤ c ∧ c < B
  val : val O + pw (i + j) * c = val (xs.take i) * val ys + pw i * wa xs i * val (ys.take j)
def mulLo (x y o c : Int) : Int := alo (alo (mlo x y) o 0) c 0
def mulHi (x y o c : Int) : Int := IntKind.u64.wrap (IntKind.u64.wrap (mhi x y + ahi (mlo x y) o 0) + ahi (alo (mlo x y) o 0) c 0)
theorem wrap_u64 {e : Int} (h0 : 0 ≤ e) (h1 : e < B) : IntKind.u64.wrap e = e := by
  rw [B_eq] at h1
  unfold IntKind.wrap
  simp [IntKind.signed, IntKind.bits]
  omega
theorem mul_add_law {x y o c : Int} (hx : 0 ≤ x ∧ x < B) (hy : 0 ≤ y ∧ y < B) (ho : 0 ≤ o ∧ o < B) (hc : 0 ≤ c ∧ c < B) :
    x * y + o + c = mulLo x y o c + B * mulHi x y o c ∧ (0 ≤ mulLo x y o c ∧ mulLo x y o c < B) ∧ 0 ≤ mulHi x y o c ∧ mulHi x y o c < B := by
  have h1 := mul_bound hx hy
  obtain ⟨e1, a1, b1⟩ := mul_law hx hy
  obtain ⟨e2, a2, b2⟩ := add_law a1 ho ⟨Int.le_refl 0, by decide⟩
  obtain ⟨e3, a3, b3⟩ := add_law a2 hc ⟨Int.le_refl 0, by decide⟩
  have w1 : IntKind.u64.wrap (mhi x y + ahi (mlo x y) o 0) = mhi x y + ahi (mlo x y) o 0 := wrap_u64 (by omega) (by omega)
  have hsum : mhi x y + ahi (mlo x y) o 0 + ahi (alo (mlo x y) o 0) c 0 < B := by
    generalize x * y = p at *
    generalize mhi x y = h at *
    generalize ahi (mlo x y) o 0 = s at *
    generalize ahi (alo (mlo x y) o 0) c 0 = t at *
    simp only [B_eq] at *
    omega
  have w2 : mulHi x y o c = mhi x y + ahi (mlo x y) o 0 + ahi (alo (mlo x y) o 0) c 0 := by
    unfold mulHi
    rw [w1, wrap_u64 (by omega) hsum]
  refine ⟨?_, a3, by rw [w2]; omega, by rw [w2]; exact hsum⟩
  rw [w2]
  unfold mulLo
  rw [Int.mul_add, Int.mul_add]
  omega
theorem MulRel.zero' (xs ys : List Int) : MulRel xs ys (List.replicate (xs.length + ys.length) 0) 0 := by
  refine ⟨by simp, wf_zeros _, fun t _ => ?_, by simp [val_zeros, val_nil]⟩
  unfold wa
  rw [List.getElem?_replicate]
  split <;> rfl
theorem MulRel.inner {xs ys O : List Int} {i : Nat} (h : MulRel xs ys O i) : MulIn xs ys O i 0 0 :=
  ⟨h.len, h.wf, h.zero, ⟨Int.le_refl _, B_pos⟩, by simp [h.val, val_nil]⟩
theorem MulIn.step {xs ys O : List Int} {i j : Nat} {c : Int} (h : MulIn xs ys O i j c) (hx : Wf xs) (hy : Wf ys) (hi : i < xs.length) (hj : j < ys.length) :
    MulIn xs ys (O.set (i + j) (mulLo (wa xs i) (wa ys j) (wa O (i + j)) c)) i (j + 1) (mulHi (wa xs i) (wa ys j) (wa O (i + j)) c) := by
  obtain ⟨e, a, b⟩ := mul_add_law (wf_at hx i) (wf_at hy j) (wf_at h.wf (i + j)) h.cw
  have hl : i + j < O.length := by rw [h.len]; omega
  refine ⟨by simp [h.len], wf_set h.wf a.1 a.2, fun t ht => ?_, b, ?_⟩
  · rw [wa_set _ _ hl, if_neg (by omega)]
    exact h.zero t ht
  · rw [val_set _ hl, val_take_succ', ← Nat.add_assoc, pw_succ]
    have hv := h.val
    have := pw_add i j
    grind
theorem MulIn.fin {xs ys O : List Int} {i : Nat} {c : Int} (h : MulIn xs ys O i ys.length c) (hi : i < xs.length) : MulRel xs ys (O.set (i + ys.length) c) (i + 1) := by
  have hl : i + ys.length < O.length := by rw [h.len]; omega
  refine ⟨by simp [h.len], wf_set h.wf h.cw.1 h.cw.2, fun t ht => ?_, ?_⟩
  · rw [wa_set _ _ hl, if_neg (by omega)]
    exact h.zero t (by omega)
  · rw [val_set _ hl, h.zero _ (Nat.le_refl _), val_take_succ']
    have hv := h.val
    rw [List.take_of_length_le (Nat.le_refl ys.length)] at hv
    grind
theorem MulRel.fin {xs ys O : List Int} (h : MulRel xs ys O xs.length) : Wd.val O = Wd.val xs * Wd.val ys := by
  have := h.val
  rwa [List.take_of_length_le (Nat.le_refl _)] at this
theorem len_wd_pos {n : Nat} (h : n ≠ 0) : 0 < (wd n).length := by
  cases h2 : wd n with
  | nil => exact absurd (wd_eq_nil.1 h2) h
  | cons => simp

set_option maxHeartbeats 2000000 in
theorem mul_any {w : World} {x y : Value} {xs ys : List Int} {a b : Nat} (hx : Nm w x xs a) (hy : Nm w y ys b) (hs : xs.length + ys.length ≤ 100000000) :
    Calls Tryz.prog 44 #[x, y] w (Res (a * b) w) := by
  have hvx := view_any hx
  have hvy := view_any hy
  have hlx := val_len_le hx.wf hx.val
  have hly := val_len_le hy.wf hy.val
  go_enter Tryz.func44, Tryz.ntmps44
  go_wp2_with fail
  refine hvx.mono ?_
  rintro e w' ⟨rfl, x', rfl, hrx, hsx⟩
  go_wp2_with fail
  refine hvy.mono ?_
  rintro e w' ⟨rfl, y', rfl, hry, hsy⟩
  clear hvx hvy hx hy
  by_cases ha : a = 0
  · subst ha
    have hfin : Res (0 * b) w (.returned (.slice none 0 0)) w := ⟨_, rfl, by rw [Nat.zero_mul, wd_zero]; exact Own.nil _ _, Below.refl _ _⟩
    rw [wd_zero] at hsx hrx
    rcases hsx with ⟨-, rfl, rfl⟩ | ⟨bx, ox, mx, cx, rfl, rfl, -⟩
    all_goals
      clear hsy hry hrx
      go_wp2
      go_ret
      exact hfin
  by_cases hb : b = 0
  · subst hb
    have hfin : Res (a * 0) w (.returned (.slice none 0 0)) w := ⟨_, rfl, by rw [Nat.mul_zero, wd_zero]; exact Own.nil _ _, Below.refl _ _⟩
    have hap := len_wd_pos ha
    rcases hsx with ⟨h, -, -⟩ | ⟨bx, ox, mx, cx, rfl, rfl, -⟩
    · exact absurd h ha
    rw [wd_zero] at hsy hry
    rcases hsy with ⟨-, rfl, rfl⟩ | ⟨by_, oy, my, cy, rfl, rfl, -⟩
    all_goals
      have hb0 : (((wd a).length : Int) == 0) = false := beq_eq_false_iff_ne.2 (by omega)
      clear hrx hry
      go_wp2
      go_ret
      exact hfin
  rcases hsx with ⟨h, -, -⟩ | ⟨bx, ox, mx, cx, rfl, rfl, -⟩
  · exact absurd h ha
  rcases hsy with ⟨h, -, -⟩ | ⟨by_, oy, my, cy, rfl, rfl, -⟩
  · exact absurd h hb
  have hap := len_wd_pos ha
  have hbp := len_wd_pos hb
  have hwx := wf_wd a
  have hwy := wf_wd b
  have hvx := val_wd a
  have hvy := val_wd b
  have HF : Hid (∀ v w', Own w.heap.size w' v (wd (a * b)) → Below w.heap.size w w' → Res (a * b) w (.returned v) w') := fun v w' h1 h2 => ⟨v, rfl, h1, h2⟩
  generalize wd a = X at *
  generalize wd b = Y at *
  have HV : Hid (Wf X ∧ Wf Y ∧ val X = a ∧ val Y = b) := ⟨hwx, hwy, hvx, hvy⟩
  clear hvx hvy ha hb hwx hwy
  have hX : ∀ k, k < X.length → w.cell? ⟨bx, ox + k, none⟩ = some (.int .u64 (wa X k)) := by
    rcases hrx with ⟨h, -⟩ | ⟨_, _, _, h, -, hc⟩
    · simp at h
    · simp only [Value.slice.injEq, Option.some.injEq, Addr.mk.injEq, and_true, true_and] at h
      obtain ⟨⟨rfl, rfl⟩, rfl⟩ := h
      exact hc
  have hY : ∀ k, k < Y.length → w.cell? ⟨by_, oy + k, none⟩ = some (.int .u64 (wa Y k)) := by
    rcases hry with ⟨h, -⟩ | ⟨_, _, _, h, -, hc⟩
    · simp at h
    · simp only [Value.slice.injEq, Option.some.injEq, Addr.mk.injEq, and_true, true_and] at h
      obtain ⟨⟨rfl, rfl⟩, rfl⟩ := h
      exact hc
  clear hrx hry
  have hx0 : ((X.length : Int) == 0) = false := beq_eq_false_iff_ne.2 (by omega)
  have hy0 : ((Y.length : Int) == 0) = false := beq_eq_false_iff_ne.2 (by omega)
  go_wp2_with (at_make; refine wl_make rfl (.tmp 30) (.tmp 30) 24 rfl Tryz.underlying24 (B := w.heap.size) rfl rfl (X.length + Y.length) (by simp) (by omega) (Nat.le_refl _) ?_; intro g w1 hg ho hb)
  have hgB : w.heap.size ≤ g := by have := hg.out; omega
  have HO := Lib.hid (And.intro ho hb)
  clear ho hg hb
  go_loopw [34] (fun i wr => ∃ (k : Nat) (O : List Int), k ≤ X.length ∧ i = .int .i64 k ∧ Own w.heap.size wr (.slice (some ⟨g, 0, none⟩) (X.length + Y.length) (X.length + Y.length)) O ∧ MulRel X Y O k ∧ Below w.heap.size w wr) (fun i _ => X.length - (intOf i).toNat)
  case atStart => exact ⟨0, _, by omega, rfl, HO.out.1, MulRel.zero' _ _, HO.out.2⟩
  case round =>
    obtain ⟨k, O, hk, rfl, ho, hr, hb⟩ := hrel
    by_cases hkx : k < X.length
    · have hxk := (hb.cell (lt_of_cell (hX k hkx))).trans (hX k hkx)
      have HH := Lib.hid (And.intro ho (And.intro hr hb))
      clear ho hr hb
      go_wp2_with fail
      obtain ⟨ho, hr, hb⟩ := HH.out
      have HI := Lib.hid (And.intro ho (And.intro hr.inner hb))
      clear ho hr hb
      go_loopw [41, 8] (fun j c wr' => ∃ (l : Nat) (O' : List Int) (cc : Int), l ≤ Y.length ∧ j = .int .i64 l ∧ c = .int .u64 cc ∧ Own w.heap.size wr' (.slice (some ⟨g, 0, none⟩) (X.length + Y.length) (X.length + Y.length)) O' ∧ MulIn X Y O' k l cc ∧ Below w.heap.size w wr') (fun j _ _ => Y.length - (intOf j).toNat)
      case atStart => exact ⟨0, _, _, by omega, rfl, rfl, HI.out.1, HI.out.2.1, HI.out.2.2⟩
      case round =>
        obtain ⟨l, O', cc, hl, rfl, rfl, ho, hr, hb⟩ := hrel
        by_cases hly : l < Y.length
        · have hyk := (hb.cell (lt_of_cell (hY l hly))).trans (hY l hly)
          have hgk := ho.cell hr.len (k + l) (by omega)
          have hgf := ho.frozen hr.len (k + l)
          have h0 := wf_at HV.out.1 k
          have h1 := wf_at HV.out.2.1 l
          have h2 := wf_at hr.wf (k + l)
          have h3 := hr.cw
          have HH2 := Lib.hid (And.intro ho (And.intro hr hb))
          obtain ⟨e1, a1, b1⟩ := mul_law h0 h1
          obtain ⟨e2, a2, b2⟩ := add_law a1 h2 ⟨Int.le_refl 0, by decide⟩
          clear ho hr hb e1 e2 b1 b2
          go_wp2_with (first | (refine (mul64 h0 h1 _).mono ?_; rintro e w' ⟨rfl, rfl⟩) | rw [add64 a1 h2 ⟨Int.le_refl 0, by decide⟩] | rw [add64 a2 h3 ⟨Int.le_refl 0, by decide⟩])
          go_roundw
          case rel =>
            obtain ⟨ho, hr, hb⟩ := HH2.out
            exact ⟨l + 1, _, _, by omega, by go_num, rfl, (ho.store hr.len (k + l) _).1, hr.step HV.out.1 HV.out.2.1 hkx hly, hb.setCell hgB _⟩
          case measure => simp [intOf]; omega
        · obtain rfl : l = Y.length := by omega
          have hgk := ho.cell hr.len (k + Y.length) (by omega)
          have hgf := ho.frozen hr.len (k + Y.length)
          have HH2 := Lib.hid (And.intro ho (And.intro hr hb))
          clear ho hr hb
          go_wp2
          go_roundw
          case rel =>
            obtain ⟨ho, hr, hb⟩ := HH2.out
            exact ⟨k + 1, _, by omega, by go_num, (ho.store hr.len (k + Y.length) cc).1, hr.fin hkx, hb.setCell hgB _⟩
          case measure => simp [intOf]; omega
    · obtain rfl : k = X.length := by omega
      have h4 : Nm wr (.slice (some ⟨g, 0, none⟩) (X.length + Y.length) (X.length + Y.length)) O (a * b) :=
        ⟨ho.rd, hr.wf, by rw [hr.fin, HV.out.2.2.1, HV.out.2.2.2]; simp, by rw [hr.len]; omega⟩
      have HB := Lib.hid hb
      clear ho hr hb
      go_wp2_with fail
      refine ((trim_any h4).mono ?_)
      rintro e w' hres
      obtain ⟨v, rfl, hown, hbw⟩ := hres
      have hfin := HF.out v w' (hown.mono HB.out.size) (below_trans HB.out hbw)
      clear hown hbw h4
      go_wp2
      go_ret
      exact hfin
end Go.Proofs.YtkfpjhjmedodlaaGreatDoor

/- wide.Cmp: the walk. -/
set_option maxRecDepth 100000
namespace Go.Proofs.YtkfpjhjmedodlaaGreatDoor
open Go.RowKit Wd
namespace Wd
/-- How two numbers compare. -/
def ncmp (a b : Nat) : Int := if a < b then -1 else if a = b then 0 else 1
theorem ncmp_lt {a b : Nat} (h : a < b) : ncmp a b = -1 := by simp [ncmp, h]
theorem ncmp_eq (a : Nat) : ncmp a a = 0 := by simp [ncmp]
theorem ncmp_gt {a b : Nat} (h : b < a) : ncmp a b = 1 := by unfold ncmp; rw [if_neg (by omega), if_neg (by omega)]
/-- Some orders have been drawn. -/
def Drew (w w' : World) : Prop := ∃ n, w' = w.drewN n
theorem Drew.refl (w : World) : Drew w w := ⟨0, rfl⟩
theorem Drew.step {w w' : World} (h : Drew w w') (n : Nat) : Drew w (w'.drewN n) := by
  obtain ⟨m, rfl⟩ := h
  exact ⟨m + n, World.drewN_drewN ..⟩
theorem Drew.one {w w' : World} (h : Drew w w') : Drew w w'.drew := h.step 1
theorem Drew.trans {a b c : World} (h : Drew a b) (k : Drew b c) : Drew a c := by
  obtain ⟨m, rfl⟩ := k
  exact h.step m
theorem Drew.below {w w' : World} (h : Drew w w') : Below w.heap.size w w' := by
  obtain ⟨n, rfl⟩ := h
  exact ⟨rfl, rfl, rfl, Nat.le_refl _, fun _ _ => rfl⟩
theorem lt_of_len {a b : Nat} (h : (wd a).length < (wd b).length) : a < b := by
  by_cases hab : a < b
  · exact hab
  · have := wd_len_mono (show b ≤ a by omega)
    omega
theorem val_lt_of {xs ys : List Int} (hx : Wf xs) (hy : Wf ys) (hl : xs.length = ys.length) (i : Nat) (hi : i < xs.length) (hlt : wa xs i < wa ys i) (he : ∀ t, i < t → wa xs t = wa ys t) : val xs < val ys := by
  rw [val_split xs i (by omega), val_split ys i (by omega), val_drop xs i hi, val_drop ys i (by omega)]
  have hd : xs.drop (i + 1) = ys.drop (i + 1) := by
    apply List.ext_getElem (by simp [hl])
    intro n h1 h2
    have := he (i + 1 + n) (by omega)
    rw [List.length_drop] at h1 h2
    rw [wa_lt (by omega), wa_lt (by omega)] at this
    simpa using this
  rw [hd]
  have h1 := val_lt (wf_take hx i)
  have h2 := val_nonneg (wf_take hy i)
  rw [List.length_take, Nat.min_eq_left (by omega)] at h1
  have h3 := pw_pos i
  have h4 : pw i * (wa ys i - wa xs i - 1) ≥ 0 := Int.mul_nonneg (by omega) (by omega)
  grind
theorem eq_of_at {xs ys : List Int} (hl : xs.length = ys.length) (he : ∀ t, wa xs t = wa ys t) : xs = ys := by
  apply List.ext_getElem hl
  intro n h1 h2
  have := he n
  rwa [wa_lt h1, wa_lt h2] at this
theorem Rd.at {w : World} {b off n cap : Nat} {xs : List Int} (h : Rd w (.slice (some ⟨b, off, none⟩) n cap) xs) : ∀ k, k < xs.length → w.cell? ⟨b, off + k, none⟩ = some (.int .u64 (wa xs k)) := by
  rcases h with ⟨h, -⟩ | ⟨_, _, _, h, -, hc⟩
  · simp at h
  · simp only [Value.slice.injEq, Option.some.injEq, Addr.mk.injEq, and_true] at h
    obtain ⟨⟨rfl, rfl⟩, rfl, rfl⟩ := h
    exact hc
end Wd

def CmpPost (a b : Nat) (w : World) (e : Ending) (w' : World) : Prop := e = .returned (.int .i64 (ncmp a b)) ∧ Drew w w'

set_option maxHeartbeats 2000000 in
theorem cmp_any {w : World} {x y : Value} {xs ys : List Int} {a b : Nat} (hx : Nm w x xs a) (hy : Nm w y ys b) :
    Calls Tryz.prog 64 #[x, y] w (CmpPost a b w) := by
  have hvx := view_any hx
  have hvy := view_any hy
  have hlx := val_len_le hx.wf hx.val
  have hly := val_len_le hy.wf hy.val
  have hlx2 := hx.len
  have hly2 := hy.len
  go_enter Tryz.func64, Tryz.ntmps64
  go_wp2_with fail
  refine hvx.mono ?_
  rintro e w' ⟨rfl, x', rfl, hrx, hsx⟩
  go_wp2_with fail
  refine hvy.mono ?_
  rintro e w' ⟨rfl, y', rfl, hry, hsy⟩
  clear hvx hvy hx hy
  have HLT : Hid ((wd a).length < (wd b).length → CmpPost a b w (.returned (.int .i64 (-1))) w) := fun h => ⟨by rw [ncmp_lt (lt_of_len h)], Drew.refl _⟩
  have HGT : Hid ((wd b).length < (wd a).length → CmpPost a b w (.returned (.int .i64 1)) w) := fun h => ⟨by rw [ncmp_gt (lt_of_len h)], Drew.refl _⟩
  have HL : Hid (∀ i w', Drew w w' → i < (wd a).length → (wd a).length = (wd b).length → wa (wd a) i < wa (wd b) i → (∀ t, i < t → wa (wd a) t = wa (wd b) t) → CmpPost a b w (.returned (.int .i64 (-1))) w') := fun i w' hd hi hl h1 h2 => by
    have := val_lt_of (wf_wd a) (wf_wd b) hl i hi h1 h2
    rw [val_wd, val_wd] at this
    exact ⟨by rw [ncmp_lt (by omega)], hd⟩
  have HG : Hid (∀ i w', Drew w w' → i < (wd a).length → (wd a).length = (wd b).length → wa (wd b) i < wa (wd a) i → (∀ t, i < t → wa (wd a) t = wa (wd b) t) → CmpPost a b w (.returned (.int .i64 1)) w') := fun i w' hd hi hl h1 h2 => by
    have := val_lt_of (wf_wd b) (wf_wd a) hl.symm i (by omega) h1 (fun t ht => (h2 t ht).symm)
    rw [val_wd, val_wd] at this
    exact ⟨by rw [ncmp_gt (by omega)], hd⟩
  have HE : Hid (∀ n, (wd a).length = (wd b).length → (∀ t, wa (wd a) t = wa (wd b) t) → CmpPost a b w (.returned (.int .i64 0)) (w.drewN n)) := fun n hl h => by
    have := congrArg val (eq_of_at hl h)
    rw [val_wd, val_wd] at this
    have : a = b := by omega
    subst this
    exact ⟨by rw [ncmp_eq], n, rfl⟩
  rcases Nat.lt_trichotomy (wd a).length (wd b).length with hl | hl | hl
  · have hfin := Lib.hid (HLT.out hl)
    clear HLT HGT HL HG HE hrx hry
    have hne : (((wd a).length : Int) != ((wd b).length : Int)) = true := bne_iff_ne.2 (by omega)
    rcases hsx with ⟨rfl, rfl, rfl⟩ | ⟨bx, ox, mx, cx, rfl, rfl, hmx⟩ <;> rcases hsy with ⟨rfl, rfl, rfl⟩ | ⟨by_, oy, my, cy, rfl, rfl, hmy⟩
    all_goals
      (try rw [wd_zero] at *); (try simp only [List.length_nil] at *)
      try (exfalso; omega)
    all_goals
      go_wp2
      go_ret
      exact hfin.out
  · by_cases h0 : (wd a).length = 0
    · have hfin := Lib.hid (HE.out 0 hl (fun t => by rw [wa_ge (by omega), wa_ge (by omega)]))
      have h0b : (wd b).length ≤ 0 := by omega
      clear HLT HGT HL HG HE hrx hry hl
      have ha := wd_eq_nil.1 (List.length_eq_zero_iff.1 h0)
      have hb := wd_eq_nil.1 (List.length_eq_zero_iff.1 (Nat.le_zero.1 h0b))
      subst ha hb
      rw [wd_zero] at *
      simp only [List.length_nil] at *
      rcases hsx with ⟨-, rfl, rfl⟩ | ⟨bx, ox, mx, cx, rfl, rfl, hmx⟩ <;> rcases hsy with ⟨-, rfl, rfl⟩ | ⟨by_, oy, my, cy, rfl, rfl, hmy⟩
      all_goals
        go_wp2
        refine wp_loop_rounds 1 ?_
        rw [rounds_succ]
        go_wp2
        go_ret
        exact hfin.out
    · rcases hsx with ⟨rfl, -, -⟩ | ⟨bx, ox, mx, cx, rfl, rfl, hmx⟩
      · exact absurd (by rw [wd_zero]; rfl) h0
      rcases hsy with ⟨rfl, -, -⟩ | ⟨by_, oy, my, cy, rfl, rfl, hmy⟩
      · exact absurd (by rw [hl, wd_zero]; rfl) h0
      have hX := hrx.at
      have hY := hry.at
      clear hrx hry HLT HGT
      have hwx := wf_wd a
      have hwy := wf_wd b
      generalize wd a = X at *
      generalize wd b = Y at *
      have hne : ((X.length : Int) != (Y.length : Int)) = false := by rw [hl]; simp
      have HLen := Lib.hid hl
      have hl2 : X.length ≤ Y.length := by omega
      have hl3 : Y.length ≤ X.length := by omega
      clear hl
      go_wp2
      go_loopw [5] (fun i wr => ∃ (k n : Nat), k ≤ X.length ∧ i = .int .i64 ((k : Int) - 1) ∧ wr = w.drewN n ∧ Hid (∀ t, k ≤ t → wa X t = wa Y t)) (fun i _ => (intOf i + 1).toNat)
      case atStart => exact ⟨X.length, 0, Nat.le_refl _, rfl, rfl, fun t ht => by rw [wa_ge ht, wa_ge (by omega)]⟩
      case round =>
        obtain ⟨k, n, hk, rfl, rfl, he⟩ := hrel
        by_cases h1 : k = 0
        · subst h1
          have hfin := Lib.hid (HE.out n HLen.out (fun t => he.out t (Nat.zero_le _)))
          clear HE HL HG
          go_wp2
          go_ret
          exact hfin.out
        · have hxk := hX (k - 1) (by omega)
          have hyk := hY (k - 1) (by omega)
          have i0 : 0 ≤ (k : Int) - 1 := by omega
          have i1 : (k : Int) - 1 < X.length := by omega
          have i2 : (k : Int) - 1 < Y.length := by omega
          have i3 : ((k : Int) - 1).toNat = k - 1 := by omega
          rcases Int.lt_trichotomy (wa X (k - 1)) (wa Y (k - 1)) with h | h | h
          · have ht : (wa X (k - 1) != wa Y (k - 1)) = true := bne_iff_ne.2 (by omega)
            have HC := Lib.hid (fun w' hd => HL.out (k - 1) w' hd (by omega) HLen.out h (fun t ht => he.out t (by omega)))
            clear HL HG HE
            go_wp2
            go_quiet (fail)
            go_wp2
            go_quiet (fail)
            go_wp2
            go_ret
            exact HC.out _ ((Drew.refl w |>.step _).step _ |>.step _)
          · have ht : (wa X (k - 1) != wa Y (k - 1)) = false := by rw [h]; simp
            have HH := Lib.hid h
            clear h HL HG HE
            go_wp2
            go_quiet (fail)
            go_wp2
            go_roundw
            case rel => exact ⟨k - 1, _, by omega, by go_num, rfl, fun t ht => by
              by_cases e : t = k - 1
              · subst e; exact HH.out
              · exact he.out t (by omega)⟩
            case measure => simp [intOf]; omega
          · have ht : (wa X (k - 1) != wa Y (k - 1)) = true := bne_iff_ne.2 (by omega)
            have HC := Lib.hid (fun w' hd => HG.out (k - 1) w' hd (by omega) HLen.out h (fun t ht => he.out t (by omega)))
            clear HL HG HE
            go_wp2
            go_quiet (fail)
            go_wp2
            go_quiet (fail)
            go_wp2
            go_ret
            exact HC.out _ ((Drew.refl w |>.step _).step _ |>.step _)
  · have hfin := Lib.hid (HGT.out hl)
    clear HLT HGT HL HG HE hrx hry
    have hne : (((wd a).length : Int) != ((wd b).length : Int)) = true := bne_iff_ne.2 (by omega)
    rcases hsx with ⟨rfl, rfl, rfl⟩ | ⟨bx, ox, mx, cx, rfl, rfl, hmx⟩ <;> rcases hsy with ⟨rfl, rfl, rfl⟩ | ⟨by_, oy, my, cy, rfl, rfl, hmy⟩
    all_goals
      (try rw [wd_zero] at *); (try simp only [List.length_nil] at *)
      try (exfalso; omega)
    all_goals
      go_wp2
      go_ret
      exact hfin.out
end Go.Proofs.YtkfpjhjmedodlaaGreatDoor
