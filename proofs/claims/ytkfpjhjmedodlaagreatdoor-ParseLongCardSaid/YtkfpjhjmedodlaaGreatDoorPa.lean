/- The words and the numbers of the package wide: rows, their values; view, append, Trim, Zero, Add64, Sub64. -/
import Derived.WalkKit
import Derived.Lib.Hide
import Derived.Test.YtkfpjhjmedodlaaGreatDoorProg
import Derived.WalkSpells
import Derived.Laws.AppendOwnNone
import Derived.Laws.Externs
/- Plain arithmetic of rows of words (base 2^64): values, canonical rows, lengths. No program in sight. -/
namespace Go.Proofs.YtkfpjhjmedodlaaGreatDoor
namespace Wd

/-- The base. A plain definition, so that no walk opens it. -/
def B : Int := 18446744073709551616
theorem B_eq : B = 18446744073709551616 := rfl
theorem B_pos : 0 < B := by decide
def val : List Int → Int
  | [] => 0
  | x :: xs => x + B * val xs
def Wf (xs : List Int) : Prop := ∀ x ∈ xs, 0 ≤ x ∧ x < B
def pw : Nat → Int
  | 0 => 1
  | n + 1 => B * pw n
theorem pw_zero : pw 0 = 1 := rfl
theorem pw_succ (n : Nat) : pw (n + 1) = B * pw n := rfl
theorem pw_pos (n : Nat) : 0 < pw n := by
  induction n with
  | zero => decide
  | succ n ih => exact Int.mul_pos B_pos ih
theorem pw_add (m n : Nat) : pw (m + n) = pw m * pw n := by
  induction m with
  | zero => simp [pw]
  | succ m ih => rw [Nat.add_right_comm, pw_succ, pw_succ, ih, Int.mul_assoc]
theorem pw_one : pw 1 = B := by simp [pw]
theorem pw_eq (n : Nat) : pw n = B ^ n := by
  induction n with
  | zero => rfl
  | succ n ih => rw [pw_succ, ih, Int.pow_succ, Int.mul_comm]
theorem pw_mono {m n : Nat} (h : m ≤ n) : pw m ≤ pw n := by
  obtain ⟨d, rfl⟩ := Nat.exists_eq_add_of_le h
  rw [pw_add]
  have h1 := pw_pos m
  have h2 : 1 ≤ pw d := pw_pos d
  calc pw m = pw m * 1 := by simp
    _ ≤ pw m * pw d := Int.mul_le_mul_of_nonneg_left h2 (Int.le_of_lt h1)

theorem wf_nil : Wf [] := by simp [Wf]
theorem wf_cons {x : Int} {xs : List Int} : Wf (x :: xs) ↔ (0 ≤ x ∧ x < B) ∧ Wf xs := by simp [Wf]
theorem wf_append {xs ys : List Int} : Wf (xs ++ ys) ↔ Wf xs ∧ Wf ys := by
  simp only [Wf, List.mem_append]
  exact ⟨fun h => ⟨fun x hx => h x (.inl hx), fun x hx => h x (.inr hx)⟩, fun h x hx => hx.elim (h.1 x) (h.2 x)⟩
theorem wf_zeros (n : Nat) : Wf (List.replicate n 0) := fun x hx => by
  rw [List.mem_replicate] at hx
  rw [hx.2]
  exact ⟨Int.le_refl _, B_pos⟩
theorem wf_take {xs : List Int} (h : Wf xs) (n : Nat) : Wf (xs.take n) := fun x hx => h x (List.mem_of_mem_take hx)
theorem wf_drop {xs : List Int} (h : Wf xs) (n : Nat) : Wf (xs.drop n) := fun x hx => h x (List.mem_of_mem_drop hx)
/-- A word of a row, 0 beyond its end. A plain definition, so that no walk rewrites it. -/
def wa (xs : List Int) (i : Nat) : Int := xs[i]?.getD 0
theorem wa_lt {xs : List Int} {i : Nat} (h : i < xs.length) : wa xs i = xs[i] := by simp [wa, h]
theorem wa_ge {xs : List Int} {i : Nat} (h : xs.length ≤ i) : wa xs i = 0 := by simp [wa, List.getElem?_eq_none h]
theorem wf_at {xs : List Int} (h : Wf xs) (i : Nat) : 0 ≤ wa xs i ∧ wa xs i < B := by
  by_cases hi : i < xs.length
  · rw [wa_lt hi]
    exact h _ (List.getElem_mem hi)
  · rw [wa_ge (by omega)]
    exact ⟨Int.le_refl _, B_pos⟩
theorem wf_one {x : Int} (h0 : 0 ≤ x) (h1 : x < B) : Wf [x] := by simp [Wf, h0, h1]

theorem val_nil : val [] = 0 := rfl
theorem val_cons (x : Int) (xs : List Int) : val (x :: xs) = x + B * val xs := rfl
theorem val_one (x : Int) : val [x] = x := by simp [val]
theorem val_append (xs ys : List Int) : val (xs ++ ys) = val xs + pw xs.length * val ys := by
  induction xs with
  | nil => simp [val, pw]
  | cons x xs ih =>
    rw [List.cons_append, val_cons, val_cons, ih, List.length_cons, pw_succ, Int.mul_add, Int.mul_assoc]
    omega
theorem val_zeros (n : Nat) : val (List.replicate n 0) = 0 := by
  induction n with
  | zero => rfl
  | succ n ih => rw [List.replicate_succ, val_cons, ih]; simp
theorem val_snoc (xs : List Int) (x : Int) : val (xs ++ [x]) = val xs + pw xs.length * x := by rw [val_append, val_one]
theorem val_nonneg {xs : List Int} (h : Wf xs) : 0 ≤ val xs := by
  induction xs with
  | nil => exact Int.le_refl _
  | cons x xs ih =>
    rw [wf_cons] at h
    rw [val_cons]
    have := Int.mul_nonneg (Int.le_of_lt B_pos) (ih h.2)
    omega
theorem val_lt {xs : List Int} (h : Wf xs) : val xs < pw xs.length := by
  induction xs with
  | nil => decide
  | cons x xs ih =>
    rw [wf_cons] at h
    rw [val_cons, List.length_cons, pw_succ]
    have h1 : val xs + 1 ≤ pw xs.length := ih h.2
    have h2 := Int.mul_le_mul_of_nonneg_left h1 (Int.le_of_lt B_pos)
    rw [Int.mul_add] at h2
    omega
theorem take_succ_at (xs : List Int) (k : Nat) (h : k < xs.length) : xs.take (k + 1) = xs.take k ++ [wa xs k] := by
  rw [List.take_succ_eq_append_getElem h, wa_lt h]
theorem val_take_succ (xs : List Int) (k : Nat) (h : k < xs.length) : val (xs.take (k + 1)) = val (xs.take k) + pw k * wa xs k := by
  rw [take_succ_at xs k h, val_snoc, List.length_take, Nat.min_eq_left (Nat.le_of_lt h)]
/-- The same with 0 beyond the end. -/
theorem val_take_succ' (xs : List Int) (k : Nat) : val (xs.take (k + 1)) = val (xs.take k) + pw k * wa xs k := by
  by_cases h : k < xs.length
  · exact val_take_succ xs k h
  · rw [List.take_of_length_le (by omega), List.take_of_length_le (by omega), wa_ge (by omega)]
    simp
theorem val_split (xs : List Int) (k : Nat) (h : k ≤ xs.length) : val xs = val (xs.take k) + pw k * val (xs.drop k) := by
  have := val_append (xs.take k) (xs.drop k)
  rw [List.take_append_drop, List.length_take, Nat.min_eq_left h] at this
  exact this
theorem val_drop (xs : List Int) (k : Nat) (h : k < xs.length) : val (xs.drop k) = wa xs k + B * val (xs.drop (k + 1)) := by
  rw [List.drop_eq_getElem_cons h, val_cons, wa_lt h]

/-! Canonical rows. -/
def Canon (xs : List Int) : Prop := xs.getLast? ≠ some 0
/-- The canonical row of a number. -/
def wd (n : Nat) : List Int :=
  if h : n = 0 then [] else ((n % 18446744073709551616 : Nat) : Int) :: wd (n / 18446744073709551616)
termination_by n
decreasing_by exact Nat.div_lt_self (by omega) (by decide)
theorem wd_zero : wd 0 = [] := by rw [wd]; simp
theorem wd_pos {n : Nat} (h : n ≠ 0) : wd n = ((n % 18446744073709551616 : Nat) : Int) :: wd (n / 18446744073709551616) := by rw [wd]; simp [h]
theorem wf_wd (n : Nat) : Wf (wd n) := by
  induction n using Nat.strongRecOn with
  | ind n ih =>
    by_cases h : n = 0
    · subst h; rw [wd_zero]; exact wf_nil
    · rw [wd_pos h, wf_cons]
      have := Nat.mod_lt n (show 18446744073709551616 > 0 by decide)
      exact ⟨⟨Int.natCast_nonneg _, by rw [B_eq]; omega⟩, ih _ (Nat.div_lt_self (by omega) (by decide))⟩
theorem val_wd (n : Nat) : val (wd n) = n := by
  induction n using Nat.strongRecOn with
  | ind n ih =>
    by_cases h : n = 0
    · subst h; rw [wd_zero]; rfl
    · rw [wd_pos h, val_cons, ih _ (Nat.div_lt_self (by omega) (by decide)), B_eq]
      omega
theorem wd_eq_nil {n : Nat} : wd n = [] ↔ n = 0 := by
  constructor
  · intro h
    have := val_wd n
    rw [h, val_nil] at this
    omega
  · rintro rfl; exact wd_zero
theorem canon_wd (n : Nat) : Canon (wd n) := by
  induction n using Nat.strongRecOn with
  | ind n ih =>
    by_cases h : n = 0
    · subst h; rw [wd_zero]; simp [Canon]
    · rw [wd_pos h]
      by_cases h2 : n / 18446744073709551616 = 0
      · rw [h2, wd_zero]
        simp [Canon]
        omega
      · have := ih _ (Nat.div_lt_self (by omega) (by decide : (1 : Nat) < 18446744073709551616))
        unfold Canon at this ⊢
        rw [List.getLast?_cons]
        have hne : wd (n / 18446744073709551616) ≠ [] := fun e => h2 (wd_eq_nil.1 e)
        rw [List.getLast?_eq_some_getLast hne] at this ⊢
        simpa using this
/-- A canonical row is the row of its value. -/
theorem eq_wd {xs : List Int} (hw : Wf xs) (hc : Canon xs) : xs = wd (val xs).toNat := by
  induction xs with
  | nil => rw [val_nil]; simp [wd_zero]
  | cons x xs ih =>
    rw [wf_cons] at hw
    have h0 := val_nonneg hw.2
    have hc' : Canon xs := by
      unfold Canon at hc ⊢
      cases xs with
      | nil => simp
      | cons y ys => rw [List.getLast?_cons] at hc; simpa [List.getLast?_cons] using hc
    have ih := ih hw.2 hc'
    have hv : (val (x :: xs)).toNat = x.toNat + 18446744073709551616 * (val xs).toNat := by
      rw [val_cons, B_eq]
      omega
    have hne : (val (x :: xs)).toNat ≠ 0 := by
      rw [hv]
      intro h
      have hx : x = 0 := by omega
      have hz : (val xs).toNat = 0 := by omega
      rw [hz, wd_zero] at ih
      rw [ih] at hc
      simp [Canon] at hc
      exact hc hx
    have hx : x.toNat < 18446744073709551616 := by have := hw.1.2; rw [B_eq] at this; omega
    rw [wd_pos hne, hv]
    congr 1
    · omega
    · rw [show (x.toNat + 18446744073709551616 * (val xs).toNat) / 18446744073709551616 = (val xs).toNat by omega]
      exact ih
theorem canon_snoc {xs : List Int} {x : Int} (h : x ≠ 0) : Canon (xs ++ [x]) := by simp [Canon, h]
theorem canon_nil : Canon [] := by simp [Canon]
theorem wd_unique {xs : List Int} {n : Nat} (hw : Wf xs) (hc : Canon xs) (hv : val xs = n) : xs = wd n := by
  rw [eq_wd hw hc, hv]; simp
/-- A row with zeros at its end, these taken away, is the canonical row. -/
theorem wd_take {xs : List Int} {k n : Nat} (hw : Wf xs) (hk : k ≤ xs.length) (hv : val xs = n) (hz : ∀ j, k ≤ j → wa xs j = 0) (hl : k = 0 ∨ wa xs (k - 1) ≠ 0) : xs.take k = wd n := by
  apply wd_unique (wf_take hw k)
  · rcases hl with rfl | hl
    · simpa using canon_nil
    · cases k with
      | zero => simpa using canon_nil
      | succ k =>
        rw [take_succ_at xs k (by omega)]
        exact canon_snoc (by simpa using hl)
  · rw [← hv, val_split xs k hk]
    have : val (xs.drop k) = 0 := by
      have hz' : xs.drop k = List.replicate (xs.drop k).length 0 := by
        apply List.eq_replicate_of_mem
        intro b hb
        obtain ⟨i, hi, rfl⟩ := List.getElem_of_mem hb
        rw [List.getElem_drop]
        have := hz (k + i) (by omega)
        rw [wa_lt (by rw [List.length_drop] at hi; omega)] at this
        exact this
      rw [hz', val_zeros]
    rw [this]; simp

/-! Lengths. -/
theorem wd_len_le {n k : Nat} (h : (n : Int) < pw k) : (wd n).length ≤ k := by
  induction k generalizing n with
  | zero =>
    have : n = 0 := by rw [pw_zero] at h; omega
    subst this; simp [wd_zero]
  | succ k ih =>
    by_cases hn : n = 0
    · subst hn; simp [wd_zero]
    · rw [wd_pos hn, List.length_cons]
      have : ((n / 18446744073709551616 : Nat) : Int) < pw k := by
        rw [pw_succ, B_eq] at h
        omega
      exact Nat.succ_le_succ (ih this)
theorem lt_pw_len (n : Nat) : (n : Int) < pw (wd n).length := by
  have := val_lt (wf_wd n)
  rwa [val_wd] at this
theorem wd_len_iff {n k : Nat} : (wd n).length ≤ k ↔ (n : Int) < pw k :=
  ⟨fun h => Int.lt_of_lt_of_le (lt_pw_len n) (pw_mono h), wd_len_le⟩
theorem wd_len_mono {m n : Nat} (h : m ≤ n) : (wd m).length ≤ (wd n).length := wd_len_le (Int.lt_of_le_of_lt (by omega) (lt_pw_len n))
theorem pw_le_wd {n : Nat} (h : n ≠ 0) : pw ((wd n).length - 1) ≤ n := by
  have : ¬ (n : Int) < pw ((wd n).length - 1) := fun hlt => by
    have h1 := wd_len_le hlt
    have h2 : 0 < (wd n).length := by
      cases h3 : wd n with
      | nil => exact absurd (wd_eq_nil.1 h3) h
      | cons => simp
    omega
  omega
theorem wd_len_add (m n : Nat) : (wd (m + n)).length ≤ max (wd m).length (wd n).length + 1 := by
  apply wd_len_le
  have h1 := lt_pw_len m
  have h2 := lt_pw_len n
  have h3 := pw_mono (Nat.le_max_left (wd m).length (wd n).length)
  have h4 := pw_mono (Nat.le_max_right (wd m).length (wd n).length)
  rw [pw_succ, B_eq]
  have := pw_pos (max (wd m).length (wd n).length)
  omega
theorem wd_len_mul (m n : Nat) : (wd (m * n)).length ≤ (wd m).length + (wd n).length := by
  apply wd_len_le
  rw [pw_add]
  have h1 := lt_pw_len m
  have h2 := lt_pw_len n
  have h3 := pw_pos (wd n).length
  calc ((m * n : Nat) : Int) = (m : Int) * n := by simp
    _ ≤ (m : Int) * pw (wd n).length := Int.mul_le_mul_of_nonneg_left (by omega) (by omega)
    _ < pw (wd m).length * pw (wd n).length := Int.mul_lt_mul_of_pos_right h1 h3
theorem val_len_le {xs : List Int} {n : Nat} (hw : Wf xs) (hv : val xs = n) : (wd n).length ≤ xs.length := wd_len_le (by rw [← hv]; exact val_lt hw)
end Wd
end Go.Proofs.YtkfpjhjmedodlaaGreatDoor

/- How rows of words lie in memory: what is read, what a call owns; the world behind a call. -/
namespace Go.Proofs.YtkfpjhjmedodlaaGreatDoor
open Go.RowKit Wd
namespace Wd

/-- The value v reads, in the world w, as the row xs. -/
def Rd (w : World) (v : Value) (xs : List Int) : Prop :=
  (v = .slice none 0 0 ∧ xs = []) ∨
  ∃ b off cap, v = .slice (some ⟨b, off, none⟩) xs.length cap ∧ xs.length ≤ cap ∧ ∀ j, j < xs.length → w.cell? ⟨b, off + j, none⟩ = some (.int .u64 (wa xs j))
def u64s (xs : List Int) : List Value := xs.map (Value.int .u64)
theorem u64s_length (xs : List Int) : (u64s xs).length = xs.length := by simp [u64s]
theorem u64s_append (xs ys : List Int) : u64s (xs ++ ys) = u64s xs ++ u64s ys := by simp [u64s]
theorem u64s_at (xs : List Int) (j : Nat) (h : j < xs.length) : (u64s xs)[j]? = some (.int .u64 (wa xs j)) := by
  simp [u64s, wa, h]
/-- The call that began with B blocks owns v, which reads as xs. -/
def Own (B : Nat) (w : World) (v : Value) (xs : List Int) : Prop := w.ownsRow B 76 1 v xs.length (u64s xs)
/-- What a function returns whose result is a number in new memory. -/
def Res (n : Nat) (w : World) (e : Ending) (w' : World) : Prop := ∃ v, e = .returned v ∧ Own w.heap.size w' v (wd n) ∧ Below w.heap.size w w'
/-- v reads as a row with the value n. -/
structure Nm (w : World) (v : Value) (xs : List Int) (n : Nat) : Prop where
  rd : Rd w v xs
  wf : Wf xs
  val : val xs = n
  len : xs.length ≤ 100000000

theorem lt_of_cell {w : World} {a : Addr} {v : Value} (h : w.cell? a = some v) : a.block < w.heap.size := World.block_lt_of_cell? w a h
theorem Rd.below {w w' : World} {v : Value} {xs : List Int} (h : Rd w v xs) (hb : Below w.heap.size w w') : Rd w' v xs := by
  rcases h with h | ⟨b, off, cap, hv, hl, hc⟩
  · exact .inl h
  · refine .inr ⟨b, off, cap, hv, hl, fun j hj => ?_⟩
    rw [hb.cell (lt_of_cell (hc j hj))]
    exact hc j hj
theorem Rd.nil (w : World) : Rd w (.slice none 0 0) [] := .inl ⟨rfl, rfl⟩
theorem Own.rd {B : Nat} {w : World} {v : Value} {xs : List Int} (h : Own B w v xs) : Rd w v xs := by
  rcases h.2 with ⟨hv, hn⟩ | ⟨g, cap, cur, hv, hg, hh, hl, _, _, ht⟩
  · exact .inl ⟨hv, List.length_eq_zero_iff.1 hn⟩
  · refine .inr ⟨g, 0, cap, hv, hl, fun j hj => ?_⟩
    have h1 := World.ownsRow.cellAt (g := g) (cap := cap) (w := w) (base := B) (e := 76) (size := 1) (n := xs.length) (xs := u64s xs) (by rw [← hv]; exact h) j (by omega)
    rw [Nat.zero_add, h1, u64s_at xs j hj]
theorem Own.nil (B : Nat) (w : World) : Own B w (.slice none 0 0) [] := World.ownsRow_nil _ _ _ _
theorem Own.below {B : Nat} {w w' : World} {v : Value} {xs : List Int} (h : Own B w v xs) (hb : Below w.heap.size w w') : Own B w' v xs :=
  World.ownsRow.kept h (row := none) ⟨hb.os, hb.tape, hb.output, hb.size, fun k hk _ => hb.block k hk⟩ (by cases v.ownBlock <;> simp)
theorem Own.mono {B B' : Nat} {w : World} {v : Value} {xs : List Int} (h : Own B w v xs) (hB : B' ≤ B) : Own B' w v xs := by
  obtain ⟨h1, h2⟩ := h
  refine ⟨h1, ?_⟩
  rcases h2 with h2 | ⟨g, cap, cur, hv, hg, r⟩
  · exact .inl h2
  · exact .inr ⟨g, cap, cur, hv, Nat.le_trans hB hg, r⟩
theorem Nm.below {w w' : World} {v : Value} {xs : List Int} {n : Nat} (h : Nm w v xs n) (hb : Below w.heap.size w w') : Nm w' v xs n := ⟨h.rd.below hb, h.wf, h.val, h.len⟩
theorem Own.nm {B : Nat} {w : World} {v : Value} {n : Nat} (h : Own B w v (wd n)) (hl : (wd n).length ≤ 100000000) : Nm w v (wd n) n := ⟨h.rd, wf_wd n, val_wd n, hl⟩
theorem below_trans {a b c : World} (h : Below a.heap.size a b) (k : Below b.heap.size b c) : Below a.heap.size a c := h.trans (k.mono h.size)
theorem Res.trans {n : Nat} {w w1 : World} {e : Ending} {w' : World} (h : Res n w1 e w') (hb : Below w.heap.size w w1) : Res n w e w' := by
  obtain ⟨v, he, ho, hb'⟩ := h
  exact ⟨v, he, ho.mono hb.size, below_trans hb hb'⟩
end Wd
end Go.Proofs.YtkfpjhjmedodlaaGreatDoor

/- wide.view: the walk. -/
namespace Go.Proofs.YtkfpjhjmedodlaaGreatDoor
open Go.RowKit Wd

def ViewPost (b off : Nat) (xs : List Int) (w : World) (e : Ending) (w' : World) : Prop :=
  ∃ k, k ≤ xs.length ∧ (∀ j, k ≤ j → wa xs j = 0) ∧ (k = 0 ∨ wa xs (k - 1) ≠ 0) ∧ e = .returned (.slice (some ⟨b, off, none⟩) k k) ∧ w = w'

set_option maxHeartbeats 400000 in
theorem view_some0 (b off cap : Nat) (xs : List Int) (w : World) (hc : ∀ j, j < xs.length → w.cell? ⟨b, off + j, none⟩ = some (.int .u64 (wa xs j)))
    (hm : xs.length ≤ 1000000000) (hcap : xs.length ≤ cap) :
    Calls Tryz.prog 99 #[.slice (some ⟨b, off, none⟩) xs.length cap] w (ViewPost b off xs w) := by
  go_enter Tryz.func99, Tryz.ntmps99
  go_wp2
  go_loop [3] (fun n => ∃ k : Nat, k ≤ xs.length ∧ n = .int .i64 k ∧ Hid (∀ j, k ≤ j → wa xs j = 0)) (fun n => (intOf n).toNat)
  case atStart => exact ⟨_, Nat.le_refl _, rfl, fun j hj => wa_ge hj⟩
  case round =>
    obtain ⟨k, hk, rfl, hz⟩ := hrel
    by_cases h0 : k = 0
    · subst h0
      go_wp2
      go_ret
      exact ⟨0, hk, hz.out, .inl rfl, by simp, rfl⟩
    · have h1 := hc (k - 1) (by omega)
      clear hc
      go_wp2
      · have hx : (wa xs (k - 1) == 0) = true := by assumption
        have hx : wa xs (k - 1) = 0 := by simpa using hx
        go_round
        case rel => exact ⟨k - 1, by omega, by go_num, fun j hj => by
          by_cases e : j = k - 1
          · subst e; exact hx
          · exact hz.out j (by omega)⟩
        case measure => simp [intOf]; omega
      · have hx : (wa xs (k - 1) == 0) = false := by assumption
        have hx : ¬ wa xs (k - 1) = 0 := by simpa using hx
        go_ret
        exact ⟨k, hk, hz.out, .inr hx, rfl, rfl⟩
theorem view_nil (w : World) : Calls Tryz.prog 99 #[.slice none 0 0] w fun e w' => e = .returned (.slice none 0 0) ∧ w = w' := by
  go_enter Tryz.func99, Tryz.ntmps99
  go_wp2
  refine wp_loop_rounds 1 ?_
  rw [rounds_succ]
  go_wp2
  go_ret
  exact ⟨rfl, rfl⟩
/-- wide.view: the same row without the zeros at its end; it shares memory. -/
def ViewOf (v : Value) (n : Nat) (w : World) (e : Ending) (w' : World) : Prop :=
  w = w' ∧ ∃ v', e = .returned v' ∧ Rd w v' (wd n) ∧ ((n = 0 ∧ v = .slice none 0 0 ∧ v' = .slice none 0 0) ∨ ∃ b off m cap, v = .slice (some ⟨b, off, none⟩) m cap ∧ v' = .slice (some ⟨b, off, none⟩) (wd n).length (wd n).length ∧ (wd n).length ≤ m)
theorem view_any {w : World} {v : Value} {xs : List Int} {n : Nat} (h : Nm w v xs n) : Calls Tryz.prog 99 #[v] w (ViewOf v n w) := by
  rcases h.rd with ⟨rfl, rfl⟩ | ⟨b, off, cap, rfl, hcap, hc⟩
  · have hn : n = 0 := by have := h.val; rw [val_nil] at this; omega
    subst hn
    refine (view_nil w).mono ?_
    rintro e w' ⟨rfl, rfl⟩
    exact ⟨rfl, _, rfl, by rw [wd_zero]; exact Rd.nil _, .inl ⟨rfl, rfl, rfl⟩⟩
  · refine (view_some0 b off cap xs w hc (by have := h.len; omega) hcap).mono ?_
    rintro e w' ⟨k, hk, hz, hl, rfl, rfl⟩
    have e1 := wd_take h.wf hk h.val hz hl
    have e2 : (wd n).length = k := by rw [← e1, List.length_take]; omega
    refine ⟨rfl, _, rfl, .inr ⟨b, off, k, by rw [e2], by omega, fun j hj => ?_⟩, .inr ⟨b, off, _, _, rfl, by rw [e2], by omega⟩⟩
    rw [hc j (by omega), ← e1]
    congr 2
    rw [wa, wa, List.getElem?_take, if_pos (by omega)]
end Go.Proofs.YtkfpjhjmedodlaaGreatDoor

/- The laws of append and make at rows of words, in the words of Mem. -/
namespace Go.Proofs.YtkfpjhjmedodlaaGreatDoor
open Go.RowKit Wd
namespace Wd
theorem info_u64 : (Tryz.prog.info? 76).map (fun i => (i.zero, i.size, i.bytes)) = some (some (.int .u64 0), 1, 8) := by kernel_rfl

theorem u64s_one (xs : List Int) : ∀ u ∈ u64s xs, u.oneCell' = true := by
  intro u hu
  obtain ⟨x, -, rfl⟩ := List.mem_map.1 hu
  rfl
theorem own_below {B : Nat} {w w1 w' : World} {v : Value} {xs : List Int} (hb : Below B w w1) (ho : Own B w1 v xs) (hg : w1.grownBy w' v.ownBlock) (hB : B ≤ w1.heap.size) : Below B w w' :=
  hb.grown hg hB (fun k hk => (World.ownsRow.lt ho k hk).1)
theorem wl_append {w : World} {ops : Array Oper} {rest : List Oper} {o : Oper} {a : Act} {Q : Exit → Act → World → Prop} (hgd : o.guard = none) (s x : Operand) (t : TypeId)
    (ho : o.op = .call { callee := .builtin .append, args := #[s, x], argTypes := #[t, t] }) (ht : Tryz.prog.underlying t = some (.slice 76))
    {B : Nat} {v v2 : Value} {xs ys : List Int} (hs : a.eval s = v) (hown : Own B w v xs) (hx : a.eval x = v2) (hr : Rd w v2 ys)
    (hl : xs.length + ys.length ≤ 100000000) (hB : B ≤ w.heap.size)
    (h : ∀ v' w', Own B w' v' (xs ++ ys) → w.grownBy w' v.ownBlock → Below B w w' → wpList Tryz.prog ops Q rest (a.put o.dst v') w') : wpList Tryz.prog ops Q (o :: rest) a w := by
  obtain ⟨i0, hi, hz0, hz1, hz2⟩ := info_parts info_u64
  rcases hr with ⟨rfl, rfl⟩ | ⟨b, off, cap, rfl, hcap, hc⟩
  · refine wpList_append_own_none hgd s x t ho B 76 i0 1 ht hi v _ _ hs hown hx ?_
    exact h _ _ (by simpa using hown) (World.grownBy.refl _ _) (Below.refl _ _)
  · refine wpList_append_own (P := Tryz.prog) w hgd s x t ho B 76 i0 (.int .u64 0) 1 8 ht hi hz0 hz1 hz2 rfl (by decide) v _ _ hs hown _ _ _ (u64s ys) hx (by simp [u64s]) ?_ (u64s_one ys) (by unfold maxLen; omega) (by omega) hB ?_
    · intro j u hu
      have hj : j < ys.length := by
        have := (List.getElem?_eq_some_iff.1 hu).1
        rwa [u64s_length] at this
      rw [u64s_at ys j hj] at hu
      cases hu
      rw [show (⟨b, off, none⟩ : Addr).add j = ⟨b, off + j, none⟩ by unfold Addr.add; split <;> simp_all]
      exact hc j hj
    · intro v' w' h1 h2 _
      refine h v' w' ?_ h2 (own_below (Below.refl _ _) hown h2 hB)
      unfold Own
      rw [List.length_append, u64s_append]
      exact h1
theorem own_lit {B : Nat} {w : World} (xs : List Int) (hB : B ≤ w.heap.size) (hl : xs.length ≤ 100000000) : Own B (w.alloc (.cells (u64s xs).toArray 76)) (.slice (some ⟨w.heap.size, 0, none⟩) xs.length xs.length) xs := by
  have := World.ownsRow_lit (base := B) (e := 76) (size := 1) w (u64s xs).toArray xs.length hB (by unfold maxLen; omega) (by simp [u64s])
  simpa [Own] using this
theorem own_lit0 {B : Nat} {w : World} (hB : B ≤ w.heap.size) : Own B (w.alloc (.cells #[] 76)) (.slice (some ⟨w.heap.size, 0, none⟩) 0 0) [] := own_lit [] hB (by simp)
theorem own_lit1 {B : Nat} {w : World} (x : Int) (hB : B ≤ w.heap.size) : Own B (w.alloc (.cells #[.int .u64 x] 76)) (.slice (some ⟨w.heap.size, 0, none⟩) 1 1) [x] := own_lit [x] hB (by simp)
theorem wl_make {w : World} {ops : Array Oper} {rest : List Oper} {o : Oper} {a : Act} {Q : Exit → Act → World → Prop} (hgd : o.guard = none) (l c : Operand) (t : TypeId)
    (ho : o.op = Op.makeSlice t l c) (ht : Tryz.prog.underlying t = some (.slice 76)) {B : Nat} {L : Int} (hl : a.eval l = .int .i64 L) (hc : a.eval c = .int .i64 L) (n : Nat) (hL : L = (n : Int))
    (hn : n ≤ 100000000) (hB : B ≤ w.heap.size)
    (h : ∀ g w', Hid (g = w.heap.size) → Own B w' (.slice (some ⟨g, 0, none⟩) n n) (List.replicate n 0) → Below w.heap.size w w' → wpList Tryz.prog ops Q rest (a.put o.dst (.slice (some ⟨g, 0, none⟩) n n)) w') : wpList Tryz.prog ops Q (o :: rest) a w := by
  obtain ⟨i0, hi, hz0, hz1, hz2⟩ := info_parts info_u64
  refine wpList_make_full (P := Tryz.prog) w hgd l c t ho B 76 i0 (.int .u64 0) 1 ht hi hz0 hz1 .i64 .i64 L L n hl hc hL hL (by rw [hz2]; omega) (by unfold maxLen; omega) hB ?_
  intro w' h1 h2
  refine h _ w' rfl ?_ ((Below.refl _ _).grown h2 (Nat.le_refl _) (by simp))
  unfold Own
  rw [List.length_replicate, show u64s (List.replicate n 0) = (madeCells (Value.int IntKind.u64 0).cells (n * 1)).toList by
    rw [Nat.mul_one]
    show _ = (madeCells #[.int .u64 0] n).toList
    rw [toList_madeCells_one]
    simp [u64s]]
  exact h1
/-- A store into a row that the call owns. -/
theorem Own.store {B : Nat} {w : World} {g n cap : Nat} {xs : List Int} (h : Own B w (.slice (some ⟨g, 0, none⟩) n cap) xs) (hn : xs.length = n) (j : Nat) (x : Int) :
    Own B (w.setCell ⟨g, j, none⟩ (.int .u64 x)) (.slice (some ⟨g, 0, none⟩) n cap) (xs.set j x) ∧ w.grownBy (w.setCell ⟨g, j, none⟩ (.int .u64 x)) (some g) := by
  subst hn
  have := World.ownsRow.stored h j (.int .u64 x)
  refine ⟨?_, this.2⟩
  unfold Own
  rw [List.length_set, show u64s (xs.set j x) = (u64s xs).set j (.int .u64 x) by simp [u64s, List.map_set]]
  exact this.1
theorem Own.ge {B : Nat} {w : World} {g n cap : Nat} {xs : List Int} (h : Own B w (.slice (some ⟨g, 0, none⟩) n cap) xs) : B ≤ g ∧ g < w.heap.size := World.ownsRow.lt h g rfl
theorem Own.cell {B : Nat} {w : World} {g n cap : Nat} {xs : List Int} (h : Own B w (.slice (some ⟨g, 0, none⟩) n cap) xs) (hn : xs.length = n) (j : Nat) (hj : j < n) : w.cell? ⟨g, j, none⟩ = some (.int .u64 (wa xs j)) := by
  subst hn
  have h1 := World.ownsRow.cellAt h j (by omega)
  rw [h1, u64s_at xs j hj]
theorem Own.frozen {B : Nat} {w : World} {g n cap : Nat} {xs : List Int} (h : Own B w (.slice (some ⟨g, 0, none⟩) n cap) xs) (hn : xs.length = n) (j : Nat) : w.frozen? ⟨g, j, none⟩ = false := by
  subst hn
  exact World.ownsRow.frozenAt h j
end Wd
end Go.Proofs.YtkfpjhjmedodlaaGreatDoor

/- wide.Trim, wide.Zero, wide.Word: the walks. -/
namespace Go.Proofs.YtkfpjhjmedodlaaGreatDoor
open Go.RowKit Wd


set_option maxHeartbeats 400000 in
theorem zero_any {w : World} {v : Value} {xs : List Int} {n : Nat} (h : Nm w v xs n) : Calls Tryz.prog 41 #[v] w fun e w' => e = .returned (.bool (decide (n = 0))) ∧ w = w' := by
  have hv := view_any h
  go_enter Tryz.func41, Tryz.ntmps41
  go_wp2_with fail
  refine hv.mono ?_
  rintro e w' ⟨rfl, v', rfl, hr, hs⟩
  rcases hs with ⟨rfl, rfl, rfl⟩ | ⟨b, off, m, cap, rfl, rfl, hl⟩
  · go_wp2
    go_ret
    exact ⟨rfl, rfl⟩
  · by_cases hn : n = 0
    · subst hn
      rw [wd_zero] at *
      go_wp2
      go_ret
      exact ⟨rfl, rfl⟩
    · have : (wd n).length ≠ 0 := fun e => hn (wd_eq_nil.1 (List.length_eq_zero_iff.1 e))
      go_wp2
      go_ret
      exact ⟨by simp [hn, this], rfl⟩
set_option maxRecDepth 100000 in
set_option maxHeartbeats 400000 in
theorem trim_any {w : World} {v : Value} {xs : List Int} {n : Nat} (h : Nm w v xs n) : Calls Tryz.prog 108 #[v] w (Res n w) := by
  have hv := view_any h
  have hlen : (wd n).length ≤ 100000000 := by have := val_len_le h.wf h.val; have := h.len; omega
  go_enter Tryz.func108, Tryz.ntmps108
  go_wp2_with fail
  refine hv.mono ?_
  rintro e w' ⟨rfl, v', rfl, hr, hs⟩
  by_cases hn : n = 0
  · subst hn
    rcases hs with ⟨-, -, rfl⟩ | ⟨b, off, m, cap, -, rfl, hl⟩
    all_goals
      rw [wd_zero] at *
      go_wp2
      go_ret
      exact ⟨_, rfl, by rw [wd_zero]; exact Own.nil _ _, Below.refl _ _⟩
  · have hpos : (wd n).length ≠ 0 := fun e => hn (wd_eq_nil.1 (List.length_eq_zero_iff.1 e))
    rcases hs with ⟨h0, -, rfl⟩ | ⟨b, off, m, cap, -, rfl, hl⟩
    · exact absurd h0 hn
    · generalize hL : wd n = L at hr hl hpos hlen ⊢
      have HL := Lib.hid hL
      clear hL
      go_wp2_with (at_builtin; refine wl_append rfl (.tmp 9) (.tmp 10) 24 rfl Tryz.underlying24 (B := w.heap.size) rfl (own_lit0 (Nat.le_refl _)) rfl (hr.below ((Below.refl _ _).alloc (Nat.le_refl _) _)) (by simp; omega) (by simp) ?_; intro v' w' ho hg hb)
      go_ret
      refine ⟨_, rfl, by rw [HL.out]; exact ho, ?_⟩
      exact ((Below.refl _ _).alloc (Nat.le_refl _) _).trans hb
end Go.Proofs.YtkfpjhjmedodlaaGreatDoor

/- math/bits.Add64 and Sub64: what a call gives, in plain functions that no walk opens. -/
namespace Go.Proofs.YtkfpjhjmedodlaaGreatDoor
open Go.RowKit Wd
namespace Wd
def alo (x y c : Int) : Int := (x + y + c) % B
def ahi (x y c : Int) : Int := (x + y + c) / B
def slo (x y b : Int) : Int := (x - y - b) % B
def shi (x y b : Int) : Int := if x < y + b then 1 else 0
theorem add_law {x y c : Int} (hx : 0 ≤ x ∧ x < B) (hy : 0 ≤ y ∧ y < B) (hc : 0 ≤ c ∧ c ≤ 1) :
    x + y + c = alo x y c + B * ahi x y c ∧ (0 ≤ alo x y c ∧ alo x y c < B) ∧ 0 ≤ ahi x y c ∧ ahi x y c ≤ 1 := by
  unfold alo ahi
  rw [B_eq] at *
  omega
theorem sub_law {x y b : Int} (hx : 0 ≤ x ∧ x < B) (hy : 0 ≤ y ∧ y < B) (hb : 0 ≤ b ∧ b ≤ 1) :
    x - y - b = slo x y b - B * shi x y b ∧ (0 ≤ slo x y b ∧ slo x y b < B) ∧ 0 ≤ shi x y b ∧ shi x y b ≤ 1 := by
  unfold slo shi
  rw [B_eq] at *
  split <;> omega
def sub64Entry : Array Value → Sem Value := fun args => do
  let (x, y, b) ← Extern.MathBitsCarry.three "Sub64" args
  pure (Extern.MathBitsCarry.pair ((x + Extern.MathBitsCarry.m64 - y - b) % Extern.MathBitsCarry.m64) (if x < y + b then 1 else 0))
theorem run_sub64 (x y b : Nat) (hb : b ≤ 1) (w : World) :
    (sub64Entry #[.int .u64 x, .int .u64 y, .int .u64 b]).run Tryz.prog w =
      .ok (.tuple #[.int .u64 (((x + 18446744073709551616 - y - b) % 18446744073709551616 : Nat) : Int), .int .u64 ((if x < y + b then 1 else 0 : Nat) : Int)]) w := by
  have : b = 0 ∨ b = 1 := by omega
  rcases this with rfl | rfl <;> rfl
end Wd
theorem add64 {x y c : Int} (hx : 0 ≤ x ∧ x < B) (hy : 0 ≤ y ∧ y < B) (hc : 0 ≤ c ∧ c ≤ 1) (w : World) : (callFunc 107 #[.int .u64 x, .int .u64 y, .int .u64 c]).run Tryz.prog w =
    .ok (.value (.tuple #[.int .u64 (alo x y c), .int .u64 (ahi x y c)])) w := by
  obtain ⟨x, rfl⟩ := Int.eq_ofNat_of_zero_le hx.1
  obtain ⟨y, rfl⟩ := Int.eq_ofNat_of_zero_le hy.1
  obtain ⟨c, rfl⟩ := Int.eq_ofNat_of_zero_le hc.1
  rw [B_eq] at hx hy
  rw [run_callFunc_extern Tryz.func107 (by kernel_rfl) (by kernel_rfl) (by kernel_rfl) (e := add64Entry) (by kernel_rfl), run_add64 x y c (by omega) (by omega) (by omega) (by omega)]
  simp only [Result.andThen, alo, ahi, B_eq]
theorem sub64 {x y b : Int} (hx : 0 ≤ x ∧ x < B) (hy : 0 ≤ y ∧ y < B) (hb : 0 ≤ b ∧ b ≤ 1) (w : World) : (callFunc 206 #[.int .u64 x, .int .u64 y, .int .u64 b]).run Tryz.prog w =
    .ok (.value (.tuple #[.int .u64 (slo x y b), .int .u64 (shi x y b)])) w := by
  obtain ⟨x, rfl⟩ := Int.eq_ofNat_of_zero_le hx.1
  obtain ⟨y, rfl⟩ := Int.eq_ofNat_of_zero_le hy.1
  obtain ⟨b, rfl⟩ := Int.eq_ofNat_of_zero_le hb.1
  rw [B_eq] at hx hy
  rw [run_callFunc_extern Tryz.func206 (by kernel_rfl) (by kernel_rfl) (by kernel_rfl) (e := sub64Entry) (by kernel_rfl), run_sub64 x y b (by omega)]
  have e1 : (((x + 18446744073709551616 - y - b) % 18446744073709551616 : Nat) : Int) = slo x y b := by unfold slo; rw [B_eq]; omega
  have e2 : ((if x < y + b then 1 else 0 : Nat) : Int) = shi x y b := by unfold shi; split <;> split <;> omega
  rw [← e1, ← e2]
  rfl
end Go.Proofs.YtkfpjhjmedodlaaGreatDoor
