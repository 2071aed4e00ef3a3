/- What parse.Float gives at 0.1 in the format of 11 bits. -/
import Derived.Test.YtkfpjhjmedodlaaGreatDoorPm
import Derived.Test.YtkfpjhjmedodlaaGreatDoorPk
/- parse.Float at 0.1 in the format {5, 11}. -/
set_option maxRecDepth 100000
namespace Go.Proofs.YtkfpjhjmedodlaaGreatDoor
open Go.RowKit Wd
theorem Wd.alc (w : World) (o : Obj) : Below w.heap.size w (w.alloc o) := (Below.refl _ w).alloc (Nat.le_refl _) _
theorem Wd.keep4 {k j o : Nat} {w : World} {v v0 v1 v2 v3 : Value} (h : w.cell? ⟨j, o, none⟩ = some v) (hj : j < k) : ((((w.setCell ⟨k, 0, none⟩ v0).setCell ⟨k, 1, none⟩ v1).setCell ⟨k, 2, none⟩ v2).setCell ⟨k, 3, none⟩ v3).cell? ⟨j, o, none⟩ = some v :=
  ((below_sets4 (Below.refl k w) (Nat.le_refl _) v0 v1 v2 v3).cell (p := ⟨j, o, none⟩) hj).trans h
theorem Wd.fin4 {T : TypeId} {k B m n j : Nat} {w0 w8 : World} {v a b c d z0 z1 z2 z3 : Value} {xs : List Int} (hz : Blk4 T k w8 a b c d) (o8 : Own B w8 v xs) (hkB : k < B) (hm : m ≤ B) (hb8 : Below n w0 w8) (hkn : n ≤ k) (hk8 : Blk4 T j w8 z0 z1 z2 z3) (hj : j < k) (a' b' c' d' : Value) :
    Blk4 T k ((((w8.setCell ⟨k, 0, none⟩ a').setCell ⟨k, 1, none⟩ b').setCell ⟨k, 2, none⟩ c').setCell ⟨k, 3, none⟩ d') a' b' c' d' ∧
    Blk4 T j ((((w8.setCell ⟨k, 0, none⟩ a').setCell ⟨k, 1, none⟩ b').setCell ⟨k, 2, none⟩ c').setCell ⟨k, 3, none⟩ d') z0 z1 z2 z3 ∧
    Below n w0 ((((w8.setCell ⟨k, 0, none⟩ a').setCell ⟨k, 1, none⟩ b').setCell ⟨k, 2, none⟩ c').setCell ⟨k, 3, none⟩ d') ∧
    Own m ((((w8.setCell ⟨k, 0, none⟩ a').setCell ⟨k, 1, none⟩ b').setCell ⟨k, 2, none⟩ c').setCell ⟨k, 3, none⟩ d') v xs :=
  ⟨hz.sets a' b' c' d', hk8.below (below_sets4 (Below.refl k w8) (Nat.le_refl _) a' b' c' d') hj, below_sets4 hb8 hkn a' b' c' d', (own_sets4 o8 hkB a' b' c' d').mono hm⟩
theorem Wd.fin4b {T : TypeId} {B m n j : Nat} {w0 w8 : World} {v z0 z1 z2 z3 : Value} {xs : List Int} (o8 : Own B w8 v xs) (hm : m ≤ B) (hb8 : Below n w0 w8) (hn : n ≤ w8.heap.size) (hk8 : Blk4 T j w8 z0 z1 z2 z3) (a' b' c' d' : Value) :
    Blk4 T w8.heap.size (w8.alloc (.cells #[a', b', c', d'] T)) a' b' c' d' ∧ Blk4 T j (w8.alloc (.cells #[a', b', c', d'] T)) z0 z1 z2 z3 ∧ Below n w0 (w8.alloc (.cells #[a', b', c', d'] T)) ∧ Own m (w8.alloc (.cells #[a', b', c', d'] T)) v xs :=
  ⟨heap_alloc_new w8 _, hk8.below (alc w8 _) (lt_of_block hk8), hb8.trans ((alc w8 _).mono hn), (o8.below (alc w8 _)).mono hm⟩
/-- A float, the flag 1, no error. -/
def PFloPost (w : World) (en : Ending) (w' : World) : Prop := ∃ v, en = .returned (.tuple #[floV false (-13) v, .int .i64 1, .int .i64 0]) ∧ Own w.heap.size w' v (wd 819) ∧ Below w.heap.size w w'
set_option maxHeartbeats 8000000 in
theorem pfloat_a (w : World) (hG : Glob w) (hM : More w) :
    Calls Tryz.prog 15 #[f511, .int .i64 0, .string ⟨#[48, 46, 49]⟩] w (PFloPost w) := by
  go_enter Tryz.func15, Tryz.ntmps15
  go_wp2_with fail
  generalize hW : World.alloc _ _ = W
  have hk : Blk4 48 (w.heap.size + 1) W (.int .i64 0) (.bool false) (.int .i64 0) (.slice none 0 0) := by
    rw [← hW]
    show ((w.heap.push _).push _)[w.heap.size + 1]? = _
    rw [Array.getElem?_push, if_pos (by simp)]
  have hf : W.heap[w.heap.size]? = some (.cells #[.int .i64 5, .int .i64 11] 42 (0, 0)) := by
    rw [← hW]
    show ((w.heap.push _).push _)[w.heap.size]? = _
    rw [Array.getElem?_push, if_neg (by simp), Array.getElem?_push, if_pos (by simp)]
  have hb : Below w.heap.size w W := by
    rw [← hW]
    exact ((Below.refl _ w).alloc (Nat.le_refl _) _).alloc (by simp) _
  have hsz : w.heap.size + 1 < W.heap.size := lt_of_block hk
  clear hW
  have hG := hG.below hb
  have hM := hM.below hb
  have c0 : W.cell? ⟨w.heap.size, 0, none⟩ = some (.int .i64 5) := Lib.cell_of_heap hf 0
  have c1 : W.cell? ⟨w.heap.size, 1, none⟩ = some (.int .i64 11) := Lib.cell_of_heap hf 1
  refine (right0 _).mono ?_
  rintro e w1 ⟨rfl, rfl⟩
  go_wp2_with fail
  refine (check511 _).mono ?_
  rintro e w1 ⟨rfl, b1⟩
  have HB1 := Lib.hid b1
  clear b1 c0 c1
  go_wp2_with fail
  refine (read_any t01 plain01 (by decide) _).mono ?_
  rintro e w2 ⟨rfl, b2⟩
  rw [lgV01, rd01]
  unfold numV
  have hal : Below w2.heap.size w2 (w2.alloc (.cells #[.int .i64 0, .bool false, .string ⟨#[48, 49]⟩, .int .i64 1, .int .i64 0, .int .i64 3, .bool true] 92)) := (Below.refl _ w2).alloc (Nat.le_refl _) _
  have hn : NumB w2.heap.size (w2.alloc (.cells #[.int .i64 0, .bool false, .string ⟨#[48, 49]⟩, .int .i64 1, .int .i64 0, .int .i64 3, .bool true] 92)) 0 false ⟨#[48, 49]⟩ 1 0 3 true := heap_alloc_new w2 _
  obtain ⟨W2, hW2⟩ : ∃ W2, w2.alloc (.cells #[.int .i64 0, .bool false, .string ⟨#[48, 49]⟩, .int .i64 1, .int .i64 0, .int .i64 3, .bool true] 92) = W2 := ⟨_, rfl⟩
  rw [hW2] at hal hn
  have hB2 := below_trans (below_trans HB1.out b2) hal
  have HB2 := Lib.hid hB2
  obtain ⟨n0, n1, n2, n3, n4, n5, n6⟩ := hn.cells
  clear b2 hal hB2 HB1
  have hmg := mag_any false ⟨#[48, 49]⟩ 1 0 3 true digs01 (by decide) (-1) (by decide) W2
  rw [val01] at hmg
  unfold numV at hmg
  go_wp2_with fail
  clear hW2
  refine hmg.mono ?_
  rintro e w3 ⟨v3, rfl, o3, b3⟩
  have hB3 := below_trans HB2.out b3
  have m0 := cell_keep b3 n0
  have m1 := cell_keep b3 n1
  have c0 : w3.cell? ⟨w.heap.size, 0, none⟩ = some (.int .i64 5) := Lib.cell_of_heap ((hB3.block _ (by omega)).trans hf) 0
  have c1 : w3.cell? ⟨w.heap.size, 1, none⟩ = some (.int .i64 11) := Lib.cell_of_heap ((hB3.block _ (by omega)).trans hf) 1
  have N3 := o3.nm (wd_one (by decide))
  have hz := zero_any N3
  have hd := digits_any N3 (by have := wd_l1 (n := 1) (by decide); omega)
  rw [show ndig 1 = 1 from ndig_eq (by decide) (by decide)] at hd
  have HB3 := Lib.hid hB3
  clear n0 n1 n2 n3 n4 n5 n6 hn hmg b3 hB3 HB2 o3
  go_wp2_with fail
  refine hz.mono ?_
  rintro e w4 ⟨rfl, rfl⟩
  clear hz
  go_wp2_with fail
  refine hd.mono ?_
  rintro e w4 ⟨rfl, b4⟩
  have x0 := cell_keep b4 c0
  have x1 := cell_keep b4 c1
  have y1 := cell_keep b4 m1
  have N4 := N3.below b4
  have hB4 := below_trans HB3.out b4
  have HB4 := Lib.hid hB4
  clear c0 c1 m0 m1 b4 hB4 HB3 N3 hd
  go_wp2_with fail
  have hdr : Below w4.heap.size w4 w4.drew := Drew.below ⟨1, rfl⟩
  have hBd := below_trans HB4.out hdr
  have x0 : w4.drew.cell? ⟨w.heap.size, 0, none⟩ = some (.int .i64 5) := x0
  have x1 : w4.drew.cell? ⟨w.heap.size, 1, none⟩ = some (.int .i64 11) := x1
  have y1 : w4.drew.cell? ⟨w2.heap.size, 1, none⟩ = some (.bool false) := y1
  have N4 := N4.below hdr
  have HBd := Lib.hid hBd
  clear hdr hBd HB4
  have lz4 : w.heap.size < w4.drew.heap.size := lt_of_cell x0
  have ly4 : w2.heap.size < w4.drew.heap.size := lt_of_cell y1
  have lz4b : w.heap.size < w4.heap.size := lz4
  have ly4b : w2.heap.size < w4.heap.size := ly4
  have hll : (wd 1).length + (wd 1).length ≤ 100000000 := by have h1 := wd_l1 (n := 1) (by decide); omega
  go_region_held3 (fun w' => w'.cell? ⟨w.heap.size, 0, none⟩ = some (.int .i64 5) ∧ w'.cell? ⟨w.heap.size, 1, none⟩ = some (.int .i64 11) ∧ w'.cell? ⟨w2.heap.size, 1, none⟩ = some (.bool false)) (first | go_keep | exact ⟨keep4 s0 (by omega), keep4 s1 (by omega), keep4 s2 (by omega)⟩)
    (first
      | (go_at_call 60; refine (ten_any _ 0 (by decide)).mono ?_; rintro e w5 ⟨v5, rfl, o5, b5⟩; rw [show (10 : Nat) ^ 0 = 1 from rfl] at o5; have B5 : Below w4.drew.heap.size w4.drew w5 := (by first | exact b5 | exact below_trans (alc _ _) b5); (try have hz : Blk4 48 w4.heap.size w5 (.int .i64 0) (.bool false) (.int .i64 0) (.slice none 0 0) := (b5.block _ (by simp)).trans (heap_alloc_new w4.drew _)); (try have zl5 := lt_of_block hz); have zs5 := B5.size; have p0 := cell_keep B5 x0; have p1 := cell_keep B5 x1; have p2 := cell_keep B5 y1; have lz5 : w.heap.size < w5.heap.size := lt_of_cell p0; have ly5 : w2.heap.size < w5.heap.size := lt_of_cell p2; have N5 := N4.below B5; have O5 := o5.nm (wd_one (by decide)))
      | (go_at_call 44; (first | refine (mul_any N5 O5 hll).mono ?_ | refine (mul_any (N5.below (alc _ _)) (O5.below (alc _ _)) hll).mono ?_); rintro e w6 ⟨v6, rfl, o6, b6⟩; rw [show (1 : Nat) * 1 = 1 from rfl] at o6; have B6 : Below w5.heap.size w5 w6 := (by first | exact b6 | exact below_trans (alc _ _) b6); (first | have hz := hz.below b6 (lt_of_block hz) | (try have hz : Blk4 48 w5.heap.size w6 (.int .i64 0) (.bool false) (.int .i64 0) (.slice none 0 0) := (b6.block _ (by simp)).trans (heap_alloc_new w5 _))); (try have zl6 := lt_of_block hz); have zs6 := B6.size; have q0 := cell_keep B6 p0; have q1 := cell_keep B6 p1; have q2 := cell_keep B6 p2; have lz6 : w.heap.size < w6.heap.size := lt_of_cell q0; have ly6 : w2.heap.size < w6.heap.size := lt_of_cell q2; have O6 := o6.nm (wd_one (by decide)))
      | (go_at_call 60; refine (ten_any _ 1 (by decide)).mono ?_; rintro e w7 ⟨v7, rfl, o7, b7⟩; rw [show (10 : Nat) ^ 1 = 10 from rfl] at o7; have B7 : Below w6.heap.size w6 w7 := (by first | exact b7 | exact below_trans (alc _ _) b7); (first | have hz := hz.below b7 (lt_of_block hz) | (try have hz : Blk4 48 w6.heap.size w7 (.int .i64 0) (.bool false) (.int .i64 0) (.slice none 0 0) := (b7.block _ (by simp)).trans (heap_alloc_new w6 _))); (try have zl7 := lt_of_block hz); have zs7 := B7.size; have r0 := cell_keep B7 q0; have r1 := cell_keep B7 q1; have r2 := cell_keep B7 q2; have lz7 : w.heap.size < w7.heap.size := lt_of_cell r0; have ly7 : w2.heap.size < w7.heap.size := lt_of_cell r2; have P6 := O6.below B7; have O7 := o7.nm (wd_one (by decide)); have HB7 := below_trans (below_trans (below_trans HBd.out B5) B6) B7; have G7 := hG.below HB7; have M7 := hM.below HB7)
      | (go_at_call 59; (first | refine (ratio_a P6 O7 G7 M7).mono ?_ | refine (ratio_a (P6.below (alc _ _)) (O7.below (alc _ _)) (G7.below (alc _ _)) (M7.below (alc _ _))).mono ?_); rintro e w8 ⟨v8, rfl, o8, b8⟩; have B8 : Below w7.heap.size w7 w8 := (by first | exact b8 | exact below_trans (alc _ _) b8); (first | have hz := hz.below b8 (lt_of_block hz) | (try have hz : Blk4 48 w7.heap.size w8 (.int .i64 0) (.bool false) (.int .i64 0) (.slice none 0 0) := (b8.block _ (by simp)).trans (heap_alloc_new w7 _))); have s0 := cell_keep B8 r0; have s1 := cell_keep B8 r1; have s2 := cell_keep B8 r2; have lz8 : w.heap.size < w8.heap.size := lt_of_cell s0; have ly8 : w2.heap.size < w8.heap.size := lt_of_cell s2; obtain ⟨A, n, cp, rfl⟩ := o8.shape; (try have hzc := hz.cells); (try obtain ⟨zc0, zc1, zc2, zc3⟩ := hzc); (try have zf0 := hz.free 0); (try have zf1 := hz.free 1); (try have zf2 := hz.free 2); (try have zf3 := hz.free 3)))
  all_goals
    have hB8 := below_trans HB7 B8
    have hk8 := hk.below hB8 hsz
    have hb8 := hb.trans (hB8.mono hb.size)
    have zb4 : w.heap.size + 1 < w4.heap.size := Nat.lt_of_lt_of_le hsz HBd.out.size
    have zb5 : w4.heap.size ≤ w5.heap.size := zs5
    first
      | (have F := fin4 (m := w.heap.size + 2) hz o8 (by first | exact zl7 | (simp; done)) (by first | omega | (simp; omega)) hb8 (by omega) hk8 (by omega) (.int .i64 1) (.bool false) (.int .i64 (-13)) (.slice A n cp)
         generalize World.setCell _ _ _ = Y at F ⊢)
      | (have F := fin4b (m := w.heap.size + 2) o8 (by first | omega | (simp; omega)) hb8 (Nat.le_of_lt lz8) hk8 (.int .i64 1) (.bool false) (.int .i64 (-13)) (.slice A n cp)
         generalize World.alloc _ _ = Y at F ⊢)
    obtain ⟨zX, kX, bX, oX⟩ := F
    clear hB8 hk8 hb8
    (try clear hz)
    (try clear zc0 zc1 zc2 zc3)
    (try clear zf0 zf1 zf2 zf3)
    obtain ⟨n0, n1, n2, n3⟩ := zX.cells
    obtain ⟨k0, k1, k2, k3⟩ := kX.cells
    have g0 := kX.free 0
    have g1 := kX.free 1
    have g2 := kX.free 2
    have g3 := kX.free 3
    have H := Lib.hid (And.intro (kX.sets (.int .i64 1) (.bool false) (.int .i64 (-13)) (.slice A n cp)) (And.intro (below_sets4 bX (Nat.le_succ _) (.int .i64 1) (.bool false) (.int .i64 (-13)) (.slice A n cp)) ((own_sets4 oX (Nat.lt_succ_self _) (.int .i64 1) (.bool false) (.int .i64 (-13)) (.slice A n cp)).mono (Nat.le_add_right _ 2))))
    clear zX kX bX oX p0 p1 p2 q0 q1 q2 r0 r1 r2 s0 s1 s2 x0 x1 y1 hk hf hb
    go_wp2
    refine bodyPost_ret (flo_val3 H.out.1 Tryz.f15 _ _ _ rfl _ rfl) rfl ?_
    exact ⟨_, rfl, H.out.2.2, H.out.2.1⟩
end Go.Proofs.YtkfpjhjmedodlaaGreatDoor
