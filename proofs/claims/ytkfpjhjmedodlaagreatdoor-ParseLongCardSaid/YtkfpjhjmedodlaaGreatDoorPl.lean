/- What the package fin gives at the numbers of 0.1 in the format of 11 bits. -/
import Derived.Test.YtkfpjhjmedodlaaGreatDoorPk
import Derived.Test.YtkfpjhjmedodlaaGreatDoorPc
import Derived.Test.YtkfpjhjmedodlaaGreatDoorPe
import Derived.Test.YtkfpjhjmedodlaaGreatDoorPh
import Derived.Test.YtkfpjhjmedodlaaGreatDoorPf
/- The format {5, 11}: Check, Range, Step; the rounding 0. -/
set_option maxRecDepth 100000
namespace Go.Proofs.YtkfpjhjmedodlaaGreatDoor
open Go.RowKit Wd
namespace Wd
/-- The format with 5 bits of exponent and 11 of precision. -/
abbrev f511 : Value := .agg #[.int .i64 5, .int .i64 11]
end Wd
theorem right0 (w : World) : Calls Tryz.prog 55 #[.int .i64 0] w (PureP (.bool true) w) := by
  go_enter Tryz.func55, Tryz.ntmps55
  go_wp2
  go_ret
  exact ⟨rfl, rfl⟩
theorem check511 (w : World) : Calls Tryz.prog 56 #[f511] w (ValPost (.int .i64 0) w) := by
  go_enter Tryz.func56, Tryz.ntmps56
  go_wp2
  go_ret
  exact ⟨rfl, (Below.refl _ w).alloc (Nat.le_refl _) _⟩
set_option maxHeartbeats 1000000 in
theorem range511 (w : World) : Calls Tryz.prog 121 #[f511] w (ValPost (.tuple #[.int .i64 (-14), .int .i64 15, .int .i64 (-24), .int .i64 0]) w) := by
  go_enter Tryz.func121, Tryz.ntmps121
  go_wp2_with fail
  refine (check511 _).mono ?_
  rintro e w1 ⟨rfl, hb⟩
  have c0 : w1.cell? ⟨w.heap.size, 0, none⟩ = some (.int .i64 5) := by
    rw [hb.cell (by simp)]
    exact Lib.cell_of_heap (heap_alloc_new w (.cells #[.int .i64 5, .int .i64 11] 42)) _
  have c1 : w1.cell? ⟨w.heap.size, 1, none⟩ = some (.int .i64 11) := by
    rw [hb.cell (by simp)]
    exact Lib.cell_of_heap (heap_alloc_new w (.cells #[.int .i64 5, .int .i64 11] 42)) _
  have HB := Lib.hid hb
  clear hb
  go_wp2
  go_quiet (fail)
  go_wp2
  refine bodyPost_ret (v := .tuple #[.int .i64 (-14), .int .i64 15, .int .i64 (-24), .int .i64 0]) ?_ rfl ?_
  · simp [results, Tryz.f121]
  · exact ⟨rfl, (((Below.refl _ w).alloc (Nat.le_refl _) _).trans (HB.out.mono (by simp))).trans ((Drew.below ⟨_, rfl⟩).mono (Nat.le_trans (by simp) HB.out.size))⟩
set_option maxHeartbeats 1000000 in
theorem step511 (w : World) : Calls Tryz.prog 123 #[f511, .int .i64 (-4)] w (ValPost (.int .i64 (-14)) w) := by
  go_enter Tryz.func123, Tryz.ntmps123
  go_wp2_with fail
  refine (range511 _).mono ?_
  rintro e w1 ⟨rfl, hb⟩
  have c0 : w1.cell? ⟨w.heap.size, 0, none⟩ = some (.int .i64 5) := by
    rw [hb.cell (by simp)]
    exact Lib.cell_of_heap (heap_alloc_new w (.cells #[.int .i64 5, .int .i64 11] 42)) _
  have c1 : w1.cell? ⟨w.heap.size, 1, none⟩ = some (.int .i64 11) := by
    rw [hb.cell (by simp)]
    exact Lib.cell_of_heap (heap_alloc_new w (.cells #[.int .i64 5, .int .i64 11] 42)) _
  have HB := Lib.hid hb
  clear hb
  go_wp2
  go_ret
  exact ⟨rfl, (((Below.refl _ w).alloc (Nat.le_refl _) _).trans (HB.out.mono (by simp)))⟩
end Go.Proofs.YtkfpjhjmedodlaaGreatDoor

/- fin.cut, fin.up, fin.Make at the numbers of 0.1 in the format {5, 11}. -/
set_option maxRecDepth 100000
namespace Go.Proofs.YtkfpjhjmedodlaaGreatDoor
open Go.RowKit Wd
/-- A cut's results: what is left, and the rest's kind. -/
def CutPost (n : Nat) (r : Int) (w : World) (e : Ending) (w' : World) : Prop := ∃ v, e = .returned (.tuple #[v, .int .i64 r]) ∧ Own w.heap.size w' v (wd n) ∧ Below w.heap.size w w'
set_option maxHeartbeats 2000000 in
theorem cut_a {w : World} {v : Value} (h : Nm w v (wd 13107) 13107) : Calls Tryz.prog 124 #[v, .int .i64 3, .bool true] w (CutPost 1638 1 w) := by
  have hb := bit_any h 2 (by decide)
  have hs := shr_any h 3 (by decide)
  rw [show (13107 : Nat).testBit 2 = false from by decide] at hb
  rw [show (13107 : Nat) / 2 ^ 3 = 1638 from by decide] at hs
  go_enter Tryz.func124, Tryz.ntmps124
  go_wp2_with fail
  refine hb.mono ?_
  rintro e w1 ⟨rfl, rfl⟩
  clear hb
  go_wp2_with fail
  refine hs.mono ?_
  rintro e w2 ⟨v2, rfl, ho, hb⟩
  have H := Lib.hid (And.intro ho hb)
  clear ho hb hs
  go_wp2
  go_ret2
  exact ⟨_, rfl, H.out.1, H.out.2⟩
namespace Wd
/-- The table's first entry. -/
def More (w : World) : Prop := w.cell? ⟨1, 0, none⟩ = some (.func (.func 339) #[] #[])
theorem More.below {w w' : World} (h : More w) (hb : Below w.heap.size w w') : More w' := by
  unfold More at *
  rw [hb.cell (lt_of_cell h)]
  exact h
end Wd
set_option maxHeartbeats 2000000 in
theorem more1 (w : World) : Calls Tryz.prog 339 #[.bool false, .bool false, .int .i64 1] w (PureP (.bool false) w) := by
  go_enter Tryz.func339, Tryz.ntmps339
  go_wp2
  go_ret
  exact ⟨rfl, rfl⟩
set_option maxHeartbeats 2000000 in
theorem up_a {w : World} {v : Value} (h : Nm w v (wd 1638) 1638) (hM : More w) : Calls Tryz.prog 125 #[.int .i64 0, .bool false, v, .int .i64 1] w (Res 1638 w) := by
  have hb := fun n => bit_any (w := w.drewN n) (h.below (Drew.below ⟨n, rfl⟩)) 0 (by decide)
  have ht := fun n => trim_any (w := w.drewN n) (h.below (Drew.below ⟨n, rfl⟩))
  rw [show (1638 : Nat).testBit 0 = false from by decide] at hb
  have hm : w.cell? ⟨1, 0, none⟩ = some (.func (.func 339) #[] #[]) := hM
  clear hM
  go_enter Tryz.func125, Tryz.ntmps125
  go_wp2
  go_quiet (first | (go_at_call 177; exact Calls.quiet_of_same ((hb _).mono fun _ _ h => ⟨h.1, h.2.symm⟩)) | (go_at_call 339; exact Calls.quiet_of_same ((more1 _).mono fun _ _ h => ⟨h.1, h.2.symm⟩)))
  go_wp2_with fail
  refine (ht _).mono ?_
  rintro e w2 ⟨v2, rfl, ho, hb2⟩
  have H := Lib.hid (And.intro ho hb2)
  clear ho hb2 hb ht
  go_wp2
  go_ret
  exact ⟨_, rfl, H.out.1, below_trans (Drew.below ⟨_, rfl⟩) H.out.2⟩

namespace Wd
/-- A finite float as a value. -/
abbrev floV (neg : Bool) (e : Int) (v : Value) : Value := .agg #[.int .i64 1, .bool neg, .int .i64 e, v]
end Wd
namespace Wd
/-- A block of four cells, of type T. -/
def Blk4 (T : TypeId) (k : Nat) (w : World) (a b c d : Value) : Prop := w.heap[k]? = some (.cells #[a, b, c, d] T (0, 0))
theorem Blk4.cells {T : TypeId} {k : Nat} {w : World} {a b c d : Value} (h : Blk4 T k w a b c d) : w.cell? ⟨k, 0, none⟩ = some a ∧ w.cell? ⟨k, 1, none⟩ = some b ∧ w.cell? ⟨k, 2, none⟩ = some c ∧ w.cell? ⟨k, 3, none⟩ = some d := by
  unfold Blk4 at h
  simp [World.cell?, h]
theorem Blk4.free {T : TypeId} {k : Nat} {w : World} {a b c d : Value} (h : Blk4 T k w a b c d) (j : Nat) : w.frozen? ⟨k, j, none⟩ = false := by
  unfold Blk4 at h
  simp [World.frozen?, h]
theorem Blk4.below {T : TypeId} {k n : Nat} {w w' : World} {a b c d : Value} (h : Blk4 T k w a b c d) (hb : Below n w w') (hk : k < n) : Blk4 T k w' a b c d := (hb.block k hk).trans h
theorem Blk4.sets {T : TypeId} {k : Nat} {w : World} {a b c d : Value} (h : Blk4 T k w a b c d) (a' b' c' d' : Value) :
    Blk4 T k ((((w.setCell ⟨k, 0, none⟩ a').setCell ⟨k, 1, none⟩ b').setCell ⟨k, 2, none⟩ c').setCell ⟨k, 3, none⟩ d') a' b' c' d' := cells_set (cells_set (cells_set (cells_set h 0 a') 1 b') 2 c') 3 d'
theorem flo_val1 {k : Nat} {w : World} {a b c d : Value} (h : Blk4 48 k w a b c d) (fn : Func) (t : Tmp) (hf : fn.results = #[.cell t 48]) (tmps : Array Value) (ht : tmps.getD t undef = .pointer (some ⟨k, 0, none⟩)) :
    (results fn tmps).run Tryz.prog w = .ok (.agg #[a, b, c, d]) w := by
  obtain ⟨k0, k1, k2, k3⟩ := h.cells
  have ht' : tmps[t]?.getD undef = .pointer (some ⟨k, 0, none⟩) := by simpa using ht
  simp [results, hf, ht', go_sem, k0, k1, k2, k3]
theorem flo_val2 {k : Nat} {w : World} {a b c d : Value} (h : Blk4 48 k w a b c d) (fn : Func) (t u : Tmp) (hf : fn.results = #[.cell t 48, .tmp u]) (tmps : Array Value) (ht : tmps.getD t undef = .pointer (some ⟨k, 0, none⟩)) :
    (results fn tmps).run Tryz.prog w = .ok (.tuple #[.agg #[a, b, c, d], tmps.getD u undef]) w := by
  obtain ⟨k0, k1, k2, k3⟩ := h.cells
  have ht' : tmps[t]?.getD undef = .pointer (some ⟨k, 0, none⟩) := by simpa using ht
  simp [results, hf, ht', go_sem, k0, k1, k2, k3]
theorem flo_val3 {k : Nat} {w : World} {a b c d : Value} (h : Blk4 48 k w a b c d) (fn : Func) (t u x : Tmp) (hf : fn.results = #[.cell t 48, .tmp u, .tmp x]) (tmps : Array Value) (ht : tmps.getD t undef = .pointer (some ⟨k, 0, none⟩)) :
    (results fn tmps).run Tryz.prog w = .ok (.tuple #[.agg #[a, b, c, d], tmps.getD u undef, tmps.getD x undef]) w := by
  obtain ⟨k0, k1, k2, k3⟩ := h.cells
  have ht' : tmps[t]?.getD undef = .pointer (some ⟨k, 0, none⟩) := by simpa using ht
  simp [results, hf, ht', go_sem, k0, k1, k2, k3]
theorem below_sets4 {B k : Nat} {a w : World} (h : Below B a w) (hk : B ≤ k) (v0 v1 v2 v3 : Value) :
    Below B a ((((w.setCell ⟨k, 0, none⟩ v0).setCell ⟨k, 1, none⟩ v1).setCell ⟨k, 2, none⟩ v2).setCell ⟨k, 3, none⟩ v3) :=
  (((h.setCell (p := ⟨k, 0, none⟩) hk v0).setCell (p := ⟨k, 1, none⟩) hk v1).setCell (p := ⟨k, 2, none⟩) hk v2).setCell (p := ⟨k, 3, none⟩) hk v3
theorem own_sets4 {B k : Nat} {w : World} {v : Value} {xs : List Int} (h : Own B w v xs) (hk : k < B) (v0 v1 v2 v3 : Value) :
    Own B ((((w.setCell ⟨k, 0, none⟩ v0).setCell ⟨k, 1, none⟩ v1).setCell ⟨k, 2, none⟩ v2).setCell ⟨k, 3, none⟩ v3) v xs := by
  have hne : v.ownBlock ≠ some k := fun e => by
    have := World.ownsRow.lt h k e
    omega
  exact ownsRow_setCell_other (ownsRow_setCell_other (ownsRow_setCell_other (ownsRow_setCell_other h hne _) hne _) hne _) hne _
end Wd
def FloPost (e : Int) (n : Nat) (w : World) (en : Ending) (w' : World) : Prop := ∃ v, en = .returned (floV false e v) ∧ Own w.heap.size w' v (wd n) ∧ Below w.heap.size w w'
set_option maxHeartbeats 4000000 in
theorem make_a {w : World} {v : Value} (h : Nm w v (wd 1638) 1638) (hG : Glob w) : Calls Tryz.prog 128 #[.bool false, v, .int .i64 (-14)] w (FloPost (-13) 819 w) := by
  have ha : Below w.heap.size w (w.alloc (.cells #[.int .i64 0, .bool false, .int .i64 0, .slice none 0 0] 48)) := (Below.refl _ w).alloc (Nat.le_refl _) _
  have hz := zero_any (h.below ha)
  have ht := trailing_any (h.below ha) (hG.below ha)
  have hs := shr_any (h.below ha) 1 (by decide)
  rw [show tz 1638 = 1 from tz_eq 1 409] at ht
  rw [show (1638 : Nat) / 2 ^ 1 = 819 from by decide] at hs
  go_enter Tryz.func128, Tryz.ntmps128
  go_wp2_with fail
  refine hz.mono ?_
  rintro e w1 ⟨rfl, rfl⟩
  clear hz
  go_wp2_with fail
  refine ht.mono ?_
  rintro e w1 ⟨rfl, rfl⟩
  clear ht
  go_wp2_with fail
  refine hs.mono ?_
  rintro e w2 ⟨v2, rfl, ho, hb2⟩
  have hk : Blk4 48 w.heap.size w2 (.int .i64 0) (.bool false) (.int .i64 0) (.slice none 0 0) := (hb2.block _ (by simp)).trans (heap_alloc_new w _)
  obtain ⟨k0, k1, k2, k3⟩ := hk.cells
  have g0 := hk.free 0
  have g1 := hk.free 1
  have g2 := hk.free 2
  have g3 := hk.free 3
  have hlt : w.heap.size < (w.alloc (.cells #[.int .i64 0, .bool false, .int .i64 0, .slice none 0 0] 48)).heap.size := by simp
  have H := Lib.hid (And.intro (hk.sets (.int .i64 1) (.bool false) (.int .i64 (-13)) v2) (And.intro (below_sets4 (ha.trans (hb2.mono ha.size)) (Nat.le_refl _) (.int .i64 1) (.bool false) (.int .i64 (-13)) v2) ((own_sets4 ho hlt (.int .i64 1) (.bool false) (.int .i64 (-13)) v2).mono ha.size)))
  obtain ⟨A, n, cp, rfl⟩ := ho.shape
  clear ho hb2 hk hs ha h hlt
  go_wp2
  refine bodyPost_ret (flo_val1 H.out.1 Tryz.f128 _ rfl _ rfl) rfl ?_
  exact ⟨_, rfl, H.out.2.2, H.out.2.1⟩
end Go.Proofs.YtkfpjhjmedodlaaGreatDoor

/- fin.Float, fin.Ratio at the numbers of 0.1 in the format {5, 11}. -/
set_option maxRecDepth 100000
namespace Go.Proofs.YtkfpjhjmedodlaaGreatDoor
open Go.RowKit Wd
theorem Wd.wd_one {n : Nat} (h : n < 18446744073709551616) : (wd n).length ≤ 100000000 := Nat.le_trans (wd_len_le (k := 1) (by rw [pw_one]; unfold B; omega)) (by decide)
theorem Wd.wd_l1 {n : Nat} (h : n < 18446744073709551616) : (wd n).length ≤ 1 := wd_len_le (k := 1) (by rw [pw_one]; unfold B; omega)
/-- A float and the flag 1. -/
def FlagPost (e : Int) (n : Nat) (w : World) (en : Ending) (w' : World) : Prop := ∃ v, en = .returned (.tuple #[floV false e v, .int .i64 1]) ∧ Own w.heap.size w' v (wd n) ∧ Below w.heap.size w w'
set_option maxHeartbeats 4000000 in
theorem float_a {w : World} {v : Value} (h : Nm w v (wd 13107) 13107) (hG : Glob w) (hM : More w) : Calls Tryz.prog 57 #[f511, .int .i64 0, .bool false, v, .int .i64 (-17), .bool true] w (FlagPost (-13) 819 w) := by
  go_enter Tryz.func57, Tryz.ntmps57
  go_wp2_with fail
  generalize hW : World.alloc _ _ = W
  have hk : Blk4 48 (w.heap.size + 1) W (.int .i64 0) (.bool false) (.int .i64 0) (.slice none 0 0) := by
    rw [← hW]
    show ((w.heap.push _).push _)[w.heap.size + 1]? = _
    rw [Array.getElem?_push, if_pos (by simp)]
  have hf : W.heap[w.heap.size]? = some (.cells #[.int .i64 5, .int .i64 11] 42 (0, 0)) := by
    rw [← hW]
    show ((w.heap.push _).push _)[w.heap.size]? = _
    rw [Array.getElem?_push, if_neg (by simp), Array.getElem?_push, if_pos (by simp)]
  have hb : Below w.heap.size w W := by
    rw [← hW]
    exact ((Below.refl _ w).alloc (Nat.le_refl _) _).alloc (by simp) _
  have hsz : w.heap.size + 1 < W.heap.size := lt_of_block hk
  clear hW
  have h := h.below hb
  have hG := hG.below hb
  have hM := hM.below hb
  refine (range511 _).mono ?_
  rintro e w1 ⟨rfl, b1⟩
  have hl := len_any (h.below b1)
  rw [show nbits 13107 = 14 from nbits_unique (by decide) (by decide)] at hl
  have HB1 := Lib.hid b1
  clear b1
  go_wp2_with fail
  refine hl.mono ?_
  rintro e w2 ⟨rfl, rfl⟩
  have c0 : w1.cell? ⟨w.heap.size, 0, none⟩ = some (.int .i64 5) := Lib.cell_of_heap ((HB1.out.block _ (by omega)).trans hf) 0
  have c1 : w1.cell? ⟨w.heap.size, 1, none⟩ = some (.int .i64 11) := Lib.cell_of_heap ((HB1.out.block _ (by omega)).trans hf) 1
  clear hl
  go_wp2_with fail
  refine (step511 _).mono ?_
  rintro e w2 ⟨rfl, b2⟩
  have hB2 := below_trans HB1.out b2
  have hc := cut_a (h.below hB2)
  have HB2 := Lib.hid hB2
  clear b2 hB2 c0 c1 HB1
  go_wp2_with fail
  refine hc.mono ?_
  rintro e w3 ⟨v3, rfl, ho3, b3⟩
  have hB3 := below_trans HB2.out b3
  have hu := up_a (ho3.nm (wd_one (by decide))) (hM.below hB3)
  have HB3 := Lib.hid (And.intro hB3 ho3)
  clear b3 hB3 ho3 hc HB2
  go_wp2_with fail
  refine hu.mono ?_
  rintro e w4 ⟨v4, rfl, ho4, b4⟩
  have hB4 := below_trans HB3.out.1 b4
  have hl := len_any (ho4.nm (wd_one (by decide)))
  rw [show nbits 1638 = 11 from nbits_unique (by decide) (by decide)] at hl
  have hmk := make_a (ho4.nm (wd_one (by decide))) (hG.below hB4)
  have HB4 := Lib.hid hB4
  clear hu b4 ho4 hB4 HB3
  go_wp2_with fail
  refine hl.mono ?_
  rintro e w5 ⟨rfl, rfl⟩
  clear hl
  go_wp2_with fail
  refine hmk.mono ?_
  rintro e w5 ⟨v5, rfl, ho5, b5⟩
  have hB5 := below_trans HB4.out b5
  have hk5 := hk.below hB5 hsz
  obtain ⟨k0, k1, k2, k3⟩ := hk5.cells
  have g0 := hk5.free 0
  have g1 := hk5.free 1
  have g2 := hk5.free 2
  have g3 := hk5.free 3
  have hle : w.heap.size + 1 < w4.heap.size := Nat.lt_of_lt_of_le hsz HB4.out.size
  have H := Lib.hid (And.intro (hk5.sets (.int .i64 1) (.bool false) (.int .i64 (-13)) v5) (And.intro (below_sets4 (hb.trans (hB5.mono hb.size)) (Nat.le_succ _) (.int .i64 1) (.bool false) (.int .i64 (-13)) v5) ((own_sets4 ho5 hle (.int .i64 1) (.bool false) (.int .i64 (-13)) v5).mono (Nat.le_of_lt (Nat.lt_of_succ_lt hle)))))
  obtain ⟨A, n, cp, rfl⟩ := ho5.shape
  clear ho5 b5 hB5 hk5 hk hmk h hf hb hle HB4
  unfold floV
  go_wp2
  refine bodyPost_ret (flo_val2 H.out.1 Tryz.f57 _ _ rfl _ rfl) rfl ?_
  exact ⟨_, rfl, H.out.2.2, H.out.2.1⟩

set_option maxHeartbeats 4000000 in
theorem ratio_a {w : World} {v d : Value} (h : Nm w v (wd 1) 1) (hd : Nm w d (wd 10) 10) (hG : Glob w) (hM : More w) : Calls Tryz.prog 59 #[f511, .int .i64 0, .bool false, v, d, .int .i64 0] w (FlagPost (-13) 819 w) := by
  go_enter Tryz.func59, Tryz.ntmps59
  go_wp2_with fail
  generalize hW : World.alloc _ _ = W
  have hk : Blk4 48 (w.heap.size + 1) W (.int .i64 0) (.bool false) (.int .i64 0) (.slice none 0 0) := by
    rw [← hW]
    show ((w.heap.push _).push _)[w.heap.size + 1]? = _
    rw [Array.getElem?_push, if_pos (by simp)]
  have hf : W.heap[w.heap.size]? = some (.cells #[.int .i64 5, .int .i64 11] 42 (0, 0)) := by
    rw [← hW]
    show ((w.heap.push _).push _)[w.heap.size]? = _
    rw [Array.getElem?_push, if_neg (by simp), Array.getElem?_push, if_pos (by simp)]
  have hb : Below w.heap.size w W := by
    rw [← hW]
    exact ((Below.refl _ w).alloc (Nat.le_refl _) _).alloc (by simp) _
  have hsz : w.heap.size + 1 < W.heap.size := lt_of_block hk
  clear hW
  have h := h.below hb
  have hd := hd.below hb
  have hG := hG.below hb
  have hM := hM.below hb
  have c1 : W.cell? ⟨w.heap.size, 1, none⟩ = some (.int .i64 11) := Lib.cell_of_heap hf 1
  have hl := fun n => len_any (w := W.drewN n) (h.below (Drew.below ⟨n, rfl⟩))
  have hl2 := fun n => len_any (w := W.drewN n) (hd.below (Drew.below ⟨n, rfl⟩))
  rw [show nbits 1 = 1 from nbits_unique (by decide) (by decide)] at hl
  rw [show nbits 10 = 4 from nbits_unique (by decide) (by decide)] at hl2
  go_quiet (first | (go_at_call_of 122 v; exact Calls.quiet_of_same ((hl _).mono fun _ _ h => ⟨h.1, h.2.symm⟩)) | (go_at_call_of 122 d; exact Calls.quiet_of_same ((hl2 _).mono fun _ _ h => ⟨h.1, h.2.symm⟩)))
  have bq : Below W.heap.size W (W.drewN nq) := Drew.below ⟨nq, rfl⟩
  have hq := h.below bq
  have hdq := hd.below bq
  have hsh := shl_any hq 17 (by have := wd_l1 (n := 1) (by decide); omega)
  rw [show (1 : Nat) * 2 ^ 17 = 131072 from by decide] at hsh
  clear hl hl2 c1
  go_wp2_with fail
  refine hsh.mono ?_
  rintro e w1 ⟨v1, rfl, ho1, b1⟩
  have hB1 := below_trans bq b1
  have hdm := divMod_any (ho1.nm (wd_one (by decide))) (hdq.below b1) (by decide) (by have h1 := wd_l1 (n := 131072) (by decide); have h2 := wd_l1 (n := 10) (by decide); omega)
  rw [show (131072 : Nat) / 10 = 13107 from by decide, show (131072 : Nat) % 10 = 2 from by decide] at hdm
  have HB1 := Lib.hid hB1
  clear hB1 hsh b1 ho1 hdq hq
  go_wp2_with fail
  refine hdm.mono ?_
  rintro e w2 ⟨v2, u2, rfl, ho2, hu2, b2⟩
  have hB2 := below_trans HB1.out b2
  have hdr : Below w2.heap.size w2 w2.drew := Drew.below ⟨1, rfl⟩
  have hBd := below_trans hB2 hdr
  have hz := zero_any ((hu2.nm (wd_one (by decide))).below hdr)
  have hfl := float_a ((ho2.nm (wd_one (by decide))).below hdr) (hG.below hBd) (hM.below hBd)
  have c0 : w2.drew.cell? ⟨w.heap.size, 0, none⟩ = some (.int .i64 5) := Lib.cell_of_heap ((hBd.block _ (by omega)).trans hf) 0
  have c1 : w2.drew.cell? ⟨w.heap.size, 1, none⟩ = some (.int .i64 11) := Lib.cell_of_heap ((hBd.block _ (by omega)).trans hf) 1
  have HBd := Lib.hid hBd
  clear hdm ho2 hu2 hB2 hdr hBd b2 HB1
  go_wp2_with fail
  have hle : w.heap.size + 1 < w2.drew.heap.size := Nat.lt_of_lt_of_le hsz HBd.out.size
  have hkd := hk.below HBd.out hsz
  have hbd := hb.trans (HBd.out.mono hb.size)
  have HK := Lib.hid (And.intro hkd hbd)
  clear hk hb hf hkd hbd h hd hG hM HBd bq
  go_region_with (first | (go_at_call 41; refine hz.mono ?_; rintro e w3 ⟨rfl, rfl⟩) | (go_at_call 57; refine hfl.mono ?_; rintro e w5 ⟨v5, rfl, ho5, b5⟩; have hk5 := HK.out.1.below b5 hle; obtain ⟨k0, k1, k2, k3⟩ := hk5.cells; have g0 := hk5.free 0; have g1 := hk5.free 1; have g2 := hk5.free 2; have g3 := hk5.free 3; obtain ⟨A, n, cp, rfl⟩ := ho5.shape))
  all_goals
    have hbb := HK.out.2.trans (b5.mono (Nat.le_trans (Nat.le_of_lt (Nat.lt_of_succ_lt hle)) (Nat.le_refl _)))
    have H := Lib.hid (And.intro (hk5.sets (.int .i64 1) (.bool false) (.int .i64 (-13)) (.slice A n cp)) (And.intro (below_sets4 hbb (Nat.le_succ _) (.int .i64 1) (.bool false) (.int .i64 (-13)) (.slice A n cp)) ((own_sets4 ho5 hle (.int .i64 1) (.bool false) (.int .i64 (-13)) (.slice A n cp)).mono (Nat.le_of_lt (Nat.lt_of_succ_lt hle)))))
    clear ho5 b5 hk5 hbb hle g0 g1 g2 g3 k0 k1 k2 k3 hfl hz
    go_wp2
    refine bodyPost_ret (flo_val2 H.out.1 Tryz.f59 _ _ rfl _ rfl) rfl ?_
    exact ⟨_, rfl, H.out.2.2, H.out.2.1⟩
end Go.Proofs.YtkfpjhjmedodlaaGreatDoor
