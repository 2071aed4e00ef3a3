/- What the packages fin and decimal give at 123456 in a context of 5 digits. -/
import Derived.Test.YtkfpjhjmedodlaaGreatDoorPl
import Derived.Test.YtkfpjhjmedodlaaGreatDoorPg
import Derived.Test.YtkfpjhjmedodlaaGreatDoorPk
/- The decimal context {5, 10, 0}: Check; fin.compare, fin.up, fin.fits at the numbers of 123456. -/
set_option maxRecDepth 100000
namespace Go.Proofs.YtkfpjhjmedodlaaGreatDoor
open Go.RowKit Wd
namespace Wd
/-- The decimal context of 5 digits, exponents to 10, rounding 0. -/
abbrev c510 : Value := .agg #[.int .i64 5, .int .i64 10, .int .i64 0]
end Wd
set_option maxHeartbeats 1000000 in
theorem dcheck510 (w : World) : Calls Tryz.prog 70 #[c510] w (ValPost (.int .i64 0) w) := by
  go_enter Tryz.func70, Tryz.ntmps70
  go_wp2_with fail
  refine (right0 _).mono ?_
  rintro e w1 ⟨rfl, rfl⟩
  go_wp2
  go_ret
  exact ⟨rfl, (Below.refl _ w).alloc (Nat.le_refl _) _⟩
set_option maxHeartbeats 1000000 in
theorem compare_b {w : World} {u v : Value} (hu : Nm w u (wd 6) 6) (hv : Nm w v (wd 10) 10) : Calls Tryz.prog 185 #[u, v] w (ValPost (.int .i64 3) w) := by
  have hz := zero_any hu
  have hs := shl_any hu 1 (by have := wd_l1 (n := 6) (by decide); omega)
  rw [show (6 : Nat) * 2 ^ 1 = 12 from by decide] at hs
  go_enter Tryz.func185, Tryz.ntmps185
  go_wp2_with fail
  refine hz.mono ?_
  rintro e w1 ⟨rfl, rfl⟩
  clear hz
  go_wp2_with fail
  refine hs.mono ?_
  rintro e w2 ⟨v2, rfl, ho, hb⟩
  have hc := cmp_any (ho.nm (wd_one (by decide))) (hv.below hb)
  have HB := Lib.hid hb
  clear hs ho hb
  go_wp2_with fail
  refine hc.mono ?_
  rintro e w3 ⟨rfl, hd⟩
  rw [show ncmp 12 10 = 1 from by decide]
  have HD := Lib.hid hd
  clear hc hd
  go_wp2
  go_ret
  exact ⟨rfl, below_trans HB.out HD.out.below⟩
set_option maxHeartbeats 2000000 in
theorem more1b (w : World) : Calls Tryz.prog 339 #[.bool false, .bool true, .int .i64 3] w (PureP (.bool true) w) := by
  go_enter Tryz.func339, Tryz.ntmps339
  go_wp2
  go_ret
  exact ⟨rfl, rfl⟩
set_option maxHeartbeats 2000000 in
theorem up_b {w : World} {v : Value} (h : Nm w v (wd 12345) 12345) (hM : More w) : Calls Tryz.prog 125 #[.int .i64 0, .bool false, v, .int .i64 3] w (Res 12346 w) := by
  have hb := fun n => bit_any (w := w.drewN n) (h.below (Drew.below ⟨n, rfl⟩)) 0 (by decide)
  have hN := fun n => (h.below (w' := w.drewN n) (Drew.below ⟨n, rfl⟩))
  rw [show (12345 : Nat).testBit 0 = true from by decide] at hb
  have hm : w.cell? ⟨1, 0, none⟩ = some (.func (.func 339) #[] #[]) := hM
  clear hM
  go_enter Tryz.func125, Tryz.ntmps125
  go_wp2
  go_quiet (first | (go_at_call 177; exact Calls.quiet_of_same ((hb _).mono fun _ _ h => ⟨h.1, h.2.symm⟩)) | (go_at_call 339; exact Calls.quiet_of_same ((more1b _).mono fun _ _ h => ⟨h.1, h.2.symm⟩)))
  have hN := hN nq
  generalize hW : w.drewN nq = W at hN ⊢
  have hbd : Below w.heap.size w W := by rw [← hW]; exact Drew.below ⟨nq, rfl⟩
  clear hW hb hm
  have ha : Below W.heap.size W (W.alloc (.cells #[.int .u64 1] 76)) := (Below.refl _ W).alloc (Nat.le_refl _) _
  have h1 : Nm (W.alloc (.cells #[.int .u64 1] 76)) (.slice (some ⟨W.heap.size, 0, none⟩) 1 1) [1] 1 := ⟨(own_lit1 (B := W.heap.size) 1 (Nat.le_refl _)).rd, wf_one (by decide) (by decide), by simp [val_one], by simp⟩
  have hA := add_any (hN.below ha) h1 (by have := wd_l1 (n := 12345) (by decide); simp; omega)
  rw [show (12345 : Nat) + 1 = 12346 from rfl] at hA
  have HB := Lib.hid (And.intro hbd ha)
  clear hN h1 hbd ha
  go_wp2_with fail
  refine hA.mono ?_
  rintro e w2 ⟨v2, rfl, ho, hb2⟩
  have H := Lib.hid (And.intro ho hb2)
  clear ho hb2 hA
  go_wp2
  go_ret
  obtain ⟨hbd, ha⟩ := HB.out
  exact ⟨_, rfl, H.out.1.mono (Nat.le_trans hbd.size ha.size), below_trans (below_trans hbd ha) H.out.2⟩
theorem Wd.ndig_eq {a k : Nat} (h1 : 10 ^ k ≤ a) (h2 : a < 10 ^ (k + 1)) : ndig a = k + 1 := by
  have h3 := ndig_le_iff.2 h2
  have h4 : ¬ ndig a ≤ k := fun h => by
    have := ndig_le_iff.1 h
    omega
  omega
namespace Wd
/-- A block of three cells, of type T. -/
def Blk3 (T : TypeId) (k : Nat) (w : World) (a b c : Value) : Prop := w.heap[k]? = some (.cells #[a, b, c] T (0, 0))
theorem Blk3.cells {T : TypeId} {k : Nat} {w : World} {a b c : Value} (h : Blk3 T k w a b c) : w.cell? ⟨k, 0, none⟩ = some a ∧ w.cell? ⟨k, 1, none⟩ = some b ∧ w.cell? ⟨k, 2, none⟩ = some c := by
  unfold Blk3 at h
  simp [World.cell?, h]
theorem Blk3.free {T : TypeId} {k : Nat} {w : World} {a b c : Value} (h : Blk3 T k w a b c) (j : Nat) : w.frozen? ⟨k, j, none⟩ = false := by
  unfold Blk3 at h
  simp [World.frozen?, h]
theorem Blk3.below {T : TypeId} {k n : Nat} {w w' : World} {a b c : Value} (h : Blk3 T k w a b c) (hb : Below n w w') (hk : k < n) : Blk3 T k w' a b c := (hb.block k hk).trans h
theorem Blk3.sets {T : TypeId} {k : Nat} {w : World} {a b c : Value} (h : Blk3 T k w a b c) (a' b' c' : Value) :
    Blk3 T k (((w.setCell ⟨k, 0, none⟩ a').setCell ⟨k, 1, none⟩ b').setCell ⟨k, 2, none⟩ c') a' b' c' := cells_set (cells_set (cells_set h 0 a') 1 b') 2 c'
theorem below_sets3 {B k : Nat} {a w : World} (h : Below B a w) (hk : B ≤ k) (v0 v1 v2 : Value) :
    Below B a (((w.setCell ⟨k, 0, none⟩ v0).setCell ⟨k, 1, none⟩ v1).setCell ⟨k, 2, none⟩ v2) :=
  ((h.setCell (p := ⟨k, 0, none⟩) hk v0).setCell (p := ⟨k, 1, none⟩) hk v1).setCell (p := ⟨k, 2, none⟩) hk v2
theorem own_sets3 {B k : Nat} {w : World} {v : Value} {xs : List Int} (h : Own B w v xs) (hk : k < B) (v0 v1 v2 : Value) :
    Own B (((w.setCell ⟨k, 0, none⟩ v0).setCell ⟨k, 1, none⟩ v1).setCell ⟨k, 2, none⟩ v2) v xs := by
  have hne : v.ownBlock ≠ some k := fun e => by
    have := World.ownsRow.lt h k e
    omega
  exact ownsRow_setCell_other (ownsRow_setCell_other (ownsRow_setCell_other h hne _) hne _) hne _
theorem fin_val2 {k : Nat} {w : World} {a b c : Value} (h : Blk3 194 k w a b c) (fn : Func) (t u : Tmp) (hf : fn.results = #[.cell t 194, .tmp u]) (tmps : Array Value) (ht : tmps.getD t undef = .pointer (some ⟨k, 0, none⟩)) :
    (results fn tmps).run Tryz.prog w = .ok (.tuple #[.agg #[a, b, c], tmps.getD u undef]) w := by
  obtain ⟨k0, k1, k2⟩ := h.cells
  have ht' : tmps[t]?.getD undef = .pointer (some ⟨k, 0, none⟩) := by simpa using ht
  simp [results, hf, ht', go_sem, k0, k1, k2]
end Wd
/-- A coefficient's three results: infinite?, the number, the exponent. -/
abbrev Wd.finV (v : Value) (e : Int) : Value := .agg #[.bool false, v, .int .i64 e]
set_option maxHeartbeats 4000000 in
theorem fits_b {w : World} {v : Value} (h : Nm w v (wd 123456) 123456) (hG : Glob w) : Calls Tryz.prog 183 #[.int .i64 5, .int .i64 10, .int .i64 (-13), v, .int .i64 0, .int .i64 0] w (ValPost (.tuple #[finV (.slice none 0 0) 0, .bool false]) w) := by
  have ha : Below w.heap.size w (w.alloc (.cells #[.bool false, .slice none 0 0, .int .i64 0] 194)) := (Below.refl _ w).alloc (Nat.le_refl _) _
  have hs := strip_any (h.below ha) (hG.below ha) (by have := wd_l1 (n := 123456) (by decide); omega)
  go_enter Tryz.func183, Tryz.ntmps183
  go_wp2_with fail
  refine hs.mono ?_
  rintro e w1 ⟨v1, rfl, ho, hb⟩
  rw [rest10_not (by decide)] at ho
  rw [tz10_not (by decide)]
  have hd := digits_any (ho.nm (wd_one (by decide))) (by have := wd_l1 (n := 123456) (by decide); omega)
  rw [show ndig 123456 = 6 from ndig_eq (by decide) (by decide)] at hd
  have HB := Lib.hid hb
  clear hs ho hb
  go_wp2_with fail
  refine hd.mono ?_
  rintro e w2 ⟨rfl, hb2⟩
  have hk : Blk3 194 w.heap.size w2 (.bool false) (.slice none 0 0) (.int .i64 0) := (hb2.block _ (Nat.lt_of_lt_of_le (by simp) HB.out.size)).trans ((HB.out.block _ (by simp)).trans (heap_alloc_new w _))
  obtain ⟨k0, k1, k2⟩ := hk.cells
  have g0 := hk.free 0
  have g1 := hk.free 1
  have g2 := hk.free 2
  have hbb := ha.trans ((below_trans HB.out hb2).mono ha.size)
  have H := Lib.hid (And.intro (hk.sets (.bool false) (.slice none 0 0) (.int .i64 0)) (below_sets3 hbb (Nat.le_refl _) (.bool false) (.slice none 0 0) (.int .i64 0)))
  clear hd hb2 hk hbb ha h
  go_wp2
  refine bodyPost_ret (fin_val2 H.out.1 Tryz.f183 _ _ rfl _ rfl) rfl ?_
  exact ⟨rfl, H.out.2⟩
end Go.Proofs.YtkfpjhjmedodlaaGreatDoor

/- fin.Finish and decimal.Finish at 123456 in the context {5, 10, 0}. -/
set_option maxRecDepth 100000
namespace Go.Proofs.YtkfpjhjmedodlaaGreatDoor
open Go.RowKit Wd
/-- A coefficient and the flag 1. -/
def CoefPost (n : Nat) (e : Int) (w : World) (en : Ending) (w' : World) : Prop := ∃ v, en = .returned (.tuple #[finV v e, .int .i64 1]) ∧ Own w.heap.size w' v (wd n) ∧ Below w.heap.size w w'
set_option maxHeartbeats 8000000 in
theorem finish_b {w : World} {v : Value} (h : Nm w v (wd 123456) 123456) (hG : Glob w) (hM : More w) :
    Calls Tryz.prog 134 #[.int .i64 5, .int .i64 10, .int .i64 0, .bool false, v, .int .i64 0, .bool false, .int .i64 0] w (CoefPost 12346 1 w) := by
  have ha : Below w.heap.size w (w.alloc (.cells #[.bool false, .slice none 0 0, .int .i64 0] 194)) := (Below.refl _ w).alloc (Nat.le_refl _) _
  have hk0 : Blk3 194 w.heap.size (w.alloc (.cells #[.bool false, .slice none 0 0, .int .i64 0] 194)) (.bool false) (.slice none 0 0) (.int .i64 0) := heap_alloc_new w _
  obtain ⟨W, hW⟩ : ∃ W, w.alloc (.cells #[.bool false, .slice none 0 0, .int .i64 0] 194) = W := ⟨_, rfl⟩
  rw [hW] at ha hk0
  have h := h.below ha
  have hG := hG.below ha
  have hM := hM.below ha
  have hsz : w.heap.size < W.heap.size := lt_of_block hk0
  have hf := fits_b h hG
  go_enter Tryz.func134, Tryz.ntmps134
  go_wp2_with fail
  clear hW
  refine hf.mono ?_
  rintro e w1 ⟨rfl, b1⟩
  have hB1 := b1.trans ((Below.refl _ w1).alloc b1.size (.cells #[.bool false, .slice none 0 0, .int .i64 0] 194))
  have hd := digits_any (h.below hB1) (by have := wd_l1 (n := 123456) (by decide); omega)
  rw [show ndig 123456 = 6 from ndig_eq (by decide) (by decide)] at hd
  have HB1 := Lib.hid hB1
  clear hf b1 hB1
  go_wp2_with fail
  refine hd.mono ?_
  rintro e w2 ⟨rfl, b2⟩
  have hB2 := below_trans HB1.out b2
  have HB2 := Lib.hid hB2
  clear hd b2 hB2 HB1
  go_wp2_with fail
  refine (ten_any _ 1 (by decide)).mono ?_
  rintro e w3 ⟨v3, rfl, ho3, b3⟩
  rw [show (10 : Nat) ^ 1 = 10 from rfl] at ho3
  have hB3 := below_trans HB2.out b3
  have n3 := ho3.nm (wd_one (by decide))
  have hdm := divMod_any (h.below hB3) n3 (by decide) (by have h1 := wd_l1 (n := 123456) (by decide); have h2 := wd_l1 (n := 10) (by decide); omega)
  rw [show (123456 : Nat) / 10 = 12345 from by decide, show (123456 : Nat) % 10 = 6 from by decide] at hdm
  have HB3 := Lib.hid (And.intro hB3 n3)
  clear b3 ho3 hB3 n3 HB2
  go_wp2_with fail
  refine hdm.mono ?_
  rintro e w4 ⟨v4, u4, rfl, ho4, hu4, b4⟩
  have hB4 := below_trans HB3.out.1 b4
  have hcp := compare_b (hu4.nm (wd_one (by decide))) (HB3.out.2.below b4)
  have HB4 := Lib.hid (And.intro hB4 (ho4.nm (wd_one (by decide))))
  clear hdm ho4 hu4 b4 hB4 HB3
  go_wp2_with fail
  refine hcp.mono ?_
  rintro e w5 ⟨rfl, b5⟩
  have hB5 := below_trans HB4.out.1 b5
  have hup := up_b (HB4.out.2.below b5) (hM.below hB5)
  have HB5 := Lib.hid hB5
  clear hcp b5 hB5 HB4
  go_wp2_with fail
  refine hup.mono ?_
  rintro e w6 ⟨v6, rfl, ho6, b6⟩
  have hB6 := below_trans HB5.out b6
  have hle6 : W.heap.size ≤ w5.heap.size := HB5.out.size
  have HB6 := Lib.hid (And.intro hB6 (ho6.mono hle6))
  clear hup ho6 b6 hB6 HB5 hle6
  go_wp2_with fail
  refine (ten_any _ 5 (by decide)).mono ?_
  rintro e w7 ⟨v7, rfl, ho7, b7⟩
  rw [show (10 : Nat) ^ 5 = 100000 from rfl] at ho7
  have hB7 := below_trans HB6.out.1 b7
  have o6 := HB6.out.2.below b7
  have hc := cmp_any (o6.nm (wd_one (by decide))) (ho7.nm (wd_one (by decide)))
  have HB7 := Lib.hid (And.intro hB7 o6)
  clear ho7 b7 hB7 o6 HB6
  go_wp2_with fail
  refine hc.mono ?_
  rintro e w8 ⟨rfl, d8⟩
  rw [show ncmp 12346 100000 = -1 from by decide]
  have hB8 := below_trans HB7.out.1 d8.below
  have o8 := HB7.out.2.below d8.below
  have hz := zero_any (o8.nm (wd_one (by decide)))
  have hd := digits_any (o8.nm (wd_one (by decide))) (by have := wd_l1 (n := 12346) (by decide); omega)
  rw [show ndig 12346 = 5 from ndig_eq (by decide) (by decide)] at hd
  have HB8 := Lib.hid (And.intro hB8 o8)
  clear hc d8 hB8 o8 HB7
  go_wp2_with fail
  refine hz.mono ?_
  rintro e w9 ⟨rfl, rfl⟩
  clear hz
  go_wp2_with fail
  refine hd.mono ?_
  rintro e w9 ⟨rfl, b9⟩
  have hB9 := below_trans HB8.out.1 b9
  have o9 := HB8.out.2.below b9
  have hk := hk0.below hB9 hsz
  obtain ⟨k0, k1, k2⟩ := hk.cells
  have g0 := hk.free 0
  have g1 := hk.free 1
  have g2 := hk.free 2
  have hbb := ha.trans (hB9.mono ha.size)
  have H := Lib.hid (And.intro (hk.sets (.bool false) v6 (.int .i64 1)) (And.intro (below_sets3 hbb (Nat.le_refl _) (.bool false) v6 (.int .i64 1)) ((own_sets3 o9 hsz (.bool false) v6 (.int .i64 1)).mono ha.size)))
  obtain ⟨A, n, cp, rfl⟩ := o9.shape
  clear hd b9 hB9 o9 hk hbb HB8 ha hk0 h hG hM hsz
  go_wp2
  refine bodyPost_ret (fin_val2 H.out.1 Tryz.f134 _ _ rfl _ rfl) rfl ?_
  exact ⟨_, rfl, H.out.2.2, H.out.2.1⟩

namespace Wd
/-- A finite decimal as a value. -/
abbrev decV (neg : Bool) (v : Value) (e : Int) : Value := .agg #[.int .i64 0, .bool neg, v, .int .i64 e]
theorem dec_val2 {k : Nat} {w : World} {a b c d : Value} (h : Blk4 60 k w a b c d) (fn : Func) (t u : Tmp) (hf : fn.results = #[.cell t 60, .tmp u]) (tmps : Array Value) (ht : tmps.getD t undef = .pointer (some ⟨k, 0, none⟩)) :
    (results fn tmps).run Tryz.prog w = .ok (.tuple #[.agg #[a, b, c, d], tmps.getD u undef]) w := by
  obtain ⟨k0, k1, k2, k3⟩ := h.cells
  have ht' : tmps[t]?.getD undef = .pointer (some ⟨k, 0, none⟩) := by simpa using ht
  simp [results, hf, ht', go_sem, k0, k1, k2, k3]
theorem dec_val3 {k : Nat} {w : World} {a b c d : Value} (h : Blk4 60 k w a b c d) (fn : Func) (t u x : Tmp) (hf : fn.results = #[.cell t 60, .tmp u, .tmp x]) (tmps : Array Value) (ht : tmps.getD t undef = .pointer (some ⟨k, 0, none⟩)) :
    (results fn tmps).run Tryz.prog w = .ok (.tuple #[.agg #[a, b, c, d], tmps.getD u undef, tmps.getD x undef]) w := by
  obtain ⟨k0, k1, k2, k3⟩ := h.cells
  have ht' : tmps[t]?.getD undef = .pointer (some ⟨k, 0, none⟩) := by simpa using ht
  simp [results, hf, ht', go_sem, k0, k1, k2, k3]
end Wd
/-- A decimal and the flag 1. -/
def DecPost (n : Nat) (e : Int) (w : World) (en : Ending) (w' : World) : Prop := ∃ v, en = .returned (.tuple #[decV false v e, .int .i64 1]) ∧ Own w.heap.size w' v (wd n) ∧ Below w.heap.size w w'
set_option maxHeartbeats 4000000 in
theorem dfinish_b {w : World} {v : Value} (h : Nm w v (wd 123456) 123456) (hG : Glob w) (hM : More w) :
    Calls Tryz.prog 73 #[c510, .bool false, v, .int .i64 0, .bool false, .int .i64 0] w (DecPost 12346 1 w) := by
  go_enter Tryz.func73, Tryz.ntmps73
  go_wp2_with fail
  generalize hW : World.alloc _ _ = W
  have hk : Blk4 60 (w.heap.size + 1) W (.int .i64 0) (.bool false) (.slice none 0 0) (.int .i64 0) := by
    rw [← hW]
    show ((w.heap.push _).push _)[w.heap.size + 1]? = _
    rw [Array.getElem?_push, if_pos (by simp)]
  have hf : W.heap[w.heap.size]? = some (.cells #[.int .i64 5, .int .i64 10, .int .i64 0] 56 (0, 0)) := by
    rw [← hW]
    show ((w.heap.push _).push _)[w.heap.size]? = _
    rw [Array.getElem?_push, if_neg (by simp), Array.getElem?_push, if_pos (by simp)]
  have hb : Below w.heap.size w W := by
    rw [← hW]
    exact ((Below.refl _ w).alloc (Nat.le_refl _) _).alloc (by simp) _
  have hsz : w.heap.size + 1 < W.heap.size := lt_of_block hk
  clear hW
  have h := h.below hb
  have hz := zero_any h
  have hfi := finish_b h (hG.below hb) (hM.below hb)
  have c0 : W.cell? ⟨w.heap.size, 0, none⟩ = some (.int .i64 5) := Lib.cell_of_heap hf 0
  have c1 : W.cell? ⟨w.heap.size, 1, none⟩ = some (.int .i64 10) := Lib.cell_of_heap hf 1
  have c2 : W.cell? ⟨w.heap.size, 2, none⟩ = some (.int .i64 0) := Lib.cell_of_heap hf 2
  refine hz.mono ?_
  rintro e w1 ⟨rfl, rfl⟩
  clear hz h hf hG hM
  go_wp2_with fail
  refine hfi.mono ?_
  rintro e w2 ⟨v2, rfl, o2, b2⟩
  clear hfi c0 c1 c2
  have hal : Below w2.heap.size w2 (w2.alloc (.cells #[.bool false, v2, .int .i64 1] 194)) := (Below.refl _ w2).alloc (Nat.le_refl _) _
  have hk3 : Blk3 194 w2.heap.size (w2.alloc (.cells #[.bool false, v2, .int .i64 1] 194)) (.bool false) v2 (.int .i64 1) := heap_alloc_new w2 _
  obtain ⟨n0, n1, n2⟩ := hk3.cells
  have hb3 := below_trans b2 hal
  have o3 := o2.below hal
  have hkk := hk.below hb3 hsz
  obtain ⟨k0, k1, k2, k3⟩ := hkk.cells
  have g0 := hkk.free 0
  have g1 := hkk.free 1
  have g2 := hkk.free 2
  have g3 := hkk.free 3
  have H := Lib.hid (And.intro (hkk.sets (.int .i64 0) (.bool false) v2 (.int .i64 1)) (And.intro (below_sets4 (hb.trans (hb3.mono hb.size)) (Nat.le_succ _) (.int .i64 0) (.bool false) v2 (.int .i64 1)) ((own_sets4 o3 hsz (.int .i64 0) (.bool false) v2 (.int .i64 1)).mono hb.size)))
  obtain ⟨A, n, cp, rfl⟩ := o2.shape
  clear o2 o3 b2 hal hk3 hb3 hkk hk hb
  go_wp2
  refine bodyPost_ret (dec_val2 H.out.1 Tryz.f73 _ _ rfl _ rfl) rfl ?_
  exact ⟨_, rfl, H.out.2.2, H.out.2.1⟩
end Go.Proofs.YtkfpjhjmedodlaaGreatDoor
